/- The helpers of the laws over leagues, by contract; how a league is opened. -/
import Derived.Test.YtceeplhkokajhaaLg
import Derived.Test.YtceeplhkokajhaaTourLw
import Derived.Test.YtceeplhkokajhaaMarks
namespace Go.Proofs.Ytceeplhkokajhaa
open Go.ChangeShapes Go.WideShapes Go.ChangeAt Go.RowKit Go.Joins Go.Deep Go.Sort
set_option maxRecDepth 100000

theorem cellsRes : Try.prog.cellsOf 26 = 4 := by kernel_rfl
theorem cellsInt : Try.prog.cellsOf 3 = 1 := by kernel_rfl
theorem choose_fn {p : Nat → R4 → Prop} {n : Nat} (h : ∀ i, i < n → ∃ r, p i r) : ∃ f : Nat → R4, ∀ i, i < n → p i (f i) :=
  ⟨fun i => if hi : i < n then Classical.choose (h i hi) else (0, 0, 0, 0), fun i hi => by simp only [dif_pos hi]; exact Classical.choose_spec (h i hi)⟩
section
variable {H : Type} {enc : TypeId × Value → H} {W : World} {base b0 : Nat} {spare : Nat → Bool} {held : Bool} {v : Value} {d : DataW H} {p : List MemPlace} {r : Reach}
theorem open_four {fuel : Nat} {cs : List Value} {x : DataW H × List MemPlace} (h : DataW.trod enc Try.prog W base spare held fuel 26 cs = some x) :
    ∃ q : R4, cs = cells4 q ∧ ResB q.1 q.2.1 q.2.2.1 q.2.2.2 := by
  obtain ⟨ys, n, _, _, hlen, hyl, hf⟩ := DataW.trod_struct Try.underlying26 h
  rw [cellsRes] at hlen
  match cs, hlen with
  | [c0, c1, c2, c3], _ =>
    have g0 : DataW.trod enc Try.prog W base spare held n 3 (([c0, c1, c2, c3].drop 0).take (Try.prog.cellsOf 3)) = ys[0]? := hf 0 _ rfl
    have g1 : DataW.trod enc Try.prog W base spare held n 3 (([c0, c1, c2, c3].drop 1).take (Try.prog.cellsOf 3)) = ys[1]? := hf 1 _ rfl
    have g2 : DataW.trod enc Try.prog W base spare held n 3 (([c0, c1, c2, c3].drop 2).take (Try.prog.cellsOf 3)) = ys[2]? := hf 2 _ rfl
    have g3 : DataW.trod enc Try.prog W base spare held n 3 (([c0, c1, c2, c3].drop 3).take (Try.prog.cellsOf 3)) = ys[3]? := hf 3 _ rfl
    rw [cellsInt] at g0 g1 g2 g3
    simp only [List.drop_zero, List.drop_succ_cons, List.take_succ_cons, List.take_zero] at g0 g1 g2 g3
    have l4 : ys.length = 4 := hyl
    match ys, l4 with
    | [y0, y1, y2, y3], _ =>
      obtain ⟨a0, e0, _, w0⟩ := DataW.trod_int Try.underlying3 (g0.trans rfl)
      obtain ⟨a1, e1, _, w1⟩ := DataW.trod_int Try.underlying3 (g1.trans rfl)
      obtain ⟨a2, e2, _, w2⟩ := DataW.trod_int Try.underlying3 (g2.trans rfl)
      obtain ⟨a3, e3, _, w3⟩ := DataW.trod_int Try.underlying3 (g3.trans rfl)
      simp at e0 e1 e2 e3
      subst e0 e1 e2 e3
      exact ⟨(a0, a1, a2, a3), rfl, bounds_i64 w0, bounds_i64 w1, bounds_i64 w2, bounds_i64 w3⟩
theorem open_results {fuel : Nat} {x : DataW H × List MemPlace} (h : DataW.trod enc Try.prog W base spare held fuel 22 [v] = some x) : ∃ rs, RdR W v rs ∧ I64R rs := by
  rcases open_slice Try.underlying22 h with ⟨hcs, _⟩ | ⟨a, len, cap, m, n, D, Pl, hcs, hb, hl, hm, hmm, hx, hi⟩
  · simp at hcs
    subst hcs
    exact ⟨[], RdR.nil_ W, fun x hx => absurd hx (by simp)⟩
  · simp at hcs
    subst hcs
    have hml : len ≤ m := by rw [hmm]; split <;> omega
    have H : ∀ i, i < len → ∃ q : R4, (∀ j u, (cells4 q)[j]? = some u → W.cell? (a.add (i * 4 + j)) = some u) ∧ ResB q.1 q.2.1 q.2.2.1 q.2.2.2 := by
      intro i hil
      obtain ⟨cs', hc, ht⟩ := hi i (by omega)
      rw [cellsRes] at hc
      obtain ⟨q, rfl, hq⟩ := open_four ht
      obtain ⟨_, hcl, hat⟩ := World.cells?_some hc
      refine ⟨q, fun j u hu => ?_, hq⟩
      have hj : j < 4 := by have := (List.getElem?_eq_some_iff.1 hu).1; simpa [cells4] using this
      rw [← Go.Deep.add_add, hat j hj, hu]
    obtain ⟨f, hf⟩ := choose_fn H
    have hlen : ((List.range len).map f).length = len := by simp
    have hat : ∀ k, k < len → r4At ((List.range len).map f) k = f k := fun k hk => by simp [r4At, hk]
    refine ⟨(List.range len).map f, ⟨some a, cap, by rw [hlen], by omega, hm, fun h0 => ?_⟩, fun q hq => ?_⟩
    · rw [hlen] at h0
      obtain ⟨b, off, spot⟩ := a
      have hc := (hf 0 h0).1 0 _ rfl
      have hspot : spot = none := by simpa [Addr.add] using World.cell?_spot hc
      subst hspot
      refine ⟨b, off, rfl, ?_, fun k hk => ?_⟩
      · have := World.block_lt_of_cell? W _ hc
        simpa [Addr.add] using this
      · rw [hlen] at hk
        rw [hat k hk]
        have q := (hf k hk).1
        have e : ∀ j u, (cells4 (f k))[j]? = some u → W.cell? ⟨b, off + k * 4 + j, none⟩ = some u := fun j u hu => by
          have := q j u hu
          rw [Addr.add_lit] at this
          rw [← this, Nat.add_assoc]
        exact ⟨e 0 _ rfl, e 1 _ rfl, e 2 _ rfl, e 3 _ rfl⟩
    · obtain ⟨k, hk, rfl⟩ := List.mem_map.1 hq
      exact (hf k (by simpa using hk)).2
def LeagueV (W : World) (v : Value) (s : Int) (rs : List R4) : Prop := ∃ sl, v = .agg #[.int .i64 s, sl] ∧ RdR W sl rs
def LeagueOpen (W : World) (v : Value) : Prop := ∃ s rs, LeagueV W v s rs ∧ I64R rs ∧ -9223372036854775808 ≤ s ∧ s ≤ 9223372036854775807
theorem cellsLg : Try.prog.cellsOf 24 = 2 := by kernel_rfl
theorem open_leaguev (hv : Value.okWide Try.prog W r b0 24 v) (h : DataW.Trod enc Try.prog W base spare held 24 v d p) : LeagueOpen W v := by
  obtain ⟨c0, c1, y0, y1, m, rfl, rfl, rfl, hy0, hy1⟩ := open_agg2 Try.underlying24 (by kernel_rfl) cellsLg hv h
  obtain ⟨a, e0, rfl, wa⟩ := DataW.trod_int Try.underlying3 hy0
  simp at e0
  subst e0
  obtain ⟨xs, hr, hi⟩ := open_results hy1
  exact ⟨a, xs, ⟨c1, rfl, hr⟩, hi, bounds_i64 wa⟩
end

theorem flat4_set (rs : List R4) (k : Nat) (hk : k < rs.length) (r : R4) :
    ((((flat4 rs).set (k * 4) (.int .i64 r.1)).set (k * 4 + 1) (.int .i64 r.2.1)).set (k * 4 + 2) (.int .i64 r.2.2.1)).set (k * 4 + 3) (.int .i64 r.2.2.2) = flat4 (rs.set k r) := by
  induction rs generalizing k with
  | nil => simp at hk
  | cons q rs ih =>
    cases k with
    | zero => simp [flat4, cells4]
    | succ k =>
      have e : flat4 (q :: rs) = cells4 q ++ flat4 rs := by simp [flat4]
      have l : (cells4 q).length = 4 := rfl
      have s : ∀ (L : List Value) (i : Nat) (u : Value), (cells4 q ++ L).set ((k + 1) * 4 + i) u = cells4 q ++ L.set (k * 4 + i) u := fun L i u => by
        rw [List.set_append_right _ _ (by omega), l, show (k + 1) * 4 + i - 4 = k * 4 + i by omega]
      have s0 : ∀ (L : List Value) (u : Value), (cells4 q ++ L).set ((k + 1) * 4) u = cells4 q ++ L.set (k * 4) u := fun L u => s L 0 u
      rw [e, s0, s, s, s, ih k (by simpa using hk), List.set_cons_succ]
      simp [flat4]
theorem OwnR.set_ {w : World} {base g n c : Nat} {rs : List R4} (h : OwnR w base (.slice (some ⟨g, 0, none⟩) n c) rs) (hl : rs.length = n) (k : Nat) (hk : k < n) (r : R4) :
    OwnR ((((w.setCell ⟨g, k * 4, none⟩ (.int .i64 r.1)).setCell ⟨g, k * 4 + 1, none⟩ (.int .i64 r.2.1)).setCell ⟨g, k * 4 + 2, none⟩ (.int .i64 r.2.2.1)).setCell ⟨g, k * 4 + 3, none⟩ (.int .i64 r.2.2.2)) base (.slice (some ⟨g, 0, none⟩) n c) (rs.set k r) ∧
      w.grownBy ((((w.setCell ⟨g, k * 4, none⟩ (.int .i64 r.1)).setCell ⟨g, k * 4 + 1, none⟩ (.int .i64 r.2.1)).setCell ⟨g, k * 4 + 2, none⟩ (.int .i64 r.2.2.1)).setCell ⟨g, k * 4 + 3, none⟩ (.int .i64 r.2.2.2)) (some g) := by
  subst hl
  have hr : w.ownsRow base 34 4 (.slice (some ⟨g, 0, none⟩) rs.length c) rs.length (flat4 rs) := h
  have s1 := World.ownsRow.stored hr (k * 4) (.int .i64 r.1)
  have s2 := World.ownsRow.stored s1.1 (k * 4 + 1) (.int .i64 r.2.1)
  have s3 := World.ownsRow.stored s2.1 (k * 4 + 2) (.int .i64 r.2.2.1)
  have s4 := World.ownsRow.stored s3.1 (k * 4 + 3) (.int .i64 r.2.2.2)
  refine ⟨?_, grown_trans (grown_trans (grown_trans s1.2 s2.2) s3.2) s4.2⟩
  unfold OwnR
  rw [List.length_set, ← flat4_set rs k hk r]
  exact s4.1
/-- where an own slice of results lies -/
theorem OwnR.at_ {w : World} {base : Nat} {v : Value} {rs : List R4} {n : Nat} (h : OwnR w base v rs) (hl : rs.length = n) (h0 : 0 < n) :
    ∃ g c, v = .slice (some ⟨g, 0, none⟩) n c ∧ base ≤ g ∧ c ≤ maxLen ∧ n ≤ c ∧ (∀ k, k < n → Four w g (k * 4) (r4At rs k)) ∧ ∀ k, w.frozen? ⟨g, k, none⟩ = false := by
  have hc := h.rd
  subst hl
  have hr : w.ownsRow base 34 4 v rs.length (flat4 rs) := h
  rcases h.2 with ⟨_, e⟩ | ⟨g, cap, cur, rfl, hb, hg, hle, hm, _⟩
  · omega
  · refine ⟨g, cap, rfl, hb, hm, hle, fun k hk => ?_, fun k => World.ownsRow.frozenAt hr k⟩
    obtain ⟨A, c, e, _, _, hx⟩ := hc
    obtain ⟨b, off, rfl, _, hx⟩ := hx h0
    injection e with e1 _ _
    injection e1 with e1
    injection e1 with e1 e2 _
    subst e1
    subst e2
    have := hx k hk
    simpa using this
theorem res_info : (Try.prog.info? 34).map (fun i => (i.zero, i.size, i.bytes)) = some (some (.agg #[.int .i64 0, .int .i64 0, .int .i64 0, .int .i64 0]), 4, 32) := by kernel_rfl
theorem flat4_replicate (n : Nat) : flat4 (List.replicate n (0, 0, 0, 0)) = List.replicate (n * 4) (.int .i64 0) := by
  rw [List.eq_replicate_iff]
  refine ⟨by rw [flat4_length, List.length_replicate], fun u hu => ?_⟩
  obtain ⟨r, hr, hu⟩ := List.mem_flatMap.1 hu
  rw [List.mem_replicate] at hr
  rw [hr.2] at hu
  simpa [cells4] using hu
theorem made_zero4 (n : Nat) : (madeCells (Value.agg #[.int .i64 0, .int .i64 0, .int .i64 0, .int .i64 0]).cells n).toList = List.replicate n (.int .i64 0) := by
  rw [List.eq_replicate_iff]
  refine ⟨by simp [madeCells], fun u hu => ?_⟩
  simp only [madeCells, Array.toList_map, List.mem_map] at hu
  obtain ⟨i, _, rfl⟩ := hu
  have h4 : i % 4 < 4 := Nat.mod_lt _ (by omega)
  simp only [Value.cells, show (#[Value.int IntKind.i64 0, Value.int IntKind.i64 0, Value.int IntKind.i64 0, Value.int IntKind.i64 0] : Array Value).size = 4 from rfl]
  generalize i % 4 = j at *
  match j, h4 with
  | 0, _ => rfl
  | 1, _ => rfl
  | 2, _ => rfl
  | 3, _ => rfl
theorem take_set_snoc (rs : List R4) (k : Nat) (hk : k < rs.length) : (rs.take k ++ List.replicate (rs.length - k) (0, 0, 0, 0)).set k (r4At rs k) = rs.take (k + 1) ++ List.replicate (rs.length - (k + 1)) (0, 0, 0, 0) := by
  have hr : rs.length - k = (rs.length - (k + 1)) + 1 := by omega
  have hl : (rs.take k).length = k := by rw [List.length_take]; omega
  rw [List.set_append_right _ _ (by omega), hl, Nat.sub_self, hr, List.replicate_succ, List.set_cons_zero, List.take_succ_eq_append_getElem hk, List.append_assoc, List.singleton_append, show r4At rs k = rs[k] by simp [r4At, hk]]
set_option maxHeartbeats 1000000 in
theorem toResultS_any (v : Value) (rs : List R4) (w : World) (h : RdR w v rs) (hlen : rs.length ≤ 2097152) :
    Calls Try.prog 50 #[v] w fun e w' => ∃ v', e = .returned v' ∧ OwnR w' w.heap.size v' rs ∧ Below w.heap.size w w' := by
  obtain ⟨i0, hi, hz0, hz1, hz2⟩ := info_parts res_info
  obtain ⟨A, c, rfl, hl1, hm1, hc1⟩ := h
  unfold maxLen at hm1
  generalize hn : rs.length = n at *
  have H1 := Lib.hid hn
  have H3 := Lib.hid hc1
  clear hn hc1
  go_enter Try.func50, Try.ntmps50
  go_wp2_with (at_make; refine wpList_make_full _ rfl _ _ 28 rfl w.heap.size 34 i0 (.agg #[.int .i64 0, .int .i64 0, .int .i64 0, .int .i64 0]) 4 Try.underlying28 hi hz0 hz1 _ _ _ _ n rfl rfl rfl rfl (by rw [hz2]; omega) (by unfold maxLen; omega) (Nat.le_refl _) ?_; intro w1 hown hg1)
  have hb1 : Below w.heap.size w w1 := (Below.refl _ _).grown hg1 (Nat.le_refl _) (by simp)
  go_loopw [4] (fun i wr => ∃ k : Nat, k ≤ n ∧ i = .int .i64 k ∧ OwnR wr w.heap.size (.slice (some ⟨w.heap.size, 0, none⟩) n n) (rs.take k ++ List.replicate (n - k) (0, 0, 0, 0)) ∧ Below w.heap.size w wr) (fun i _ => n - (intOf i).toNat)
  case atStart =>
    refine ⟨0, Nat.zero_le _, rfl, ?_, hb1⟩
    unfold OwnR
    have e : (madeCells (Value.agg #[.int .i64 0, .int .i64 0, .int .i64 0, .int .i64 0]).cells (n * 4)).toList = flat4 (rs.take 0 ++ List.replicate (n - 0) (0, 0, 0, 0)) := by
      rw [List.take_zero, List.nil_append, Nat.sub_zero, flat4_replicate, made_zero4]
    rw [← e]
    simpa using hown
  case round =>
    obtain ⟨k, hk, rfl, hwn, hb⟩ := hrel
    have hll : (rs.take k ++ List.replicate (n - k) ((0, 0, 0, 0) : R4)).length = n := by
      rw [List.length_append, List.length_take, List.length_replicate, H1.out]; omega
    by_cases hlt : k < n
    · obtain ⟨b, off, rfl, hbb, hx⟩ := H3.out (by omega)
      obtain ⟨x0, x1, x2, x3⟩ := (hx k hlt).keep (w' := wr) (fun p hp => hb.cell (by rw [hp]; exact hbb))
      have HB := Lib.hid hb
      have HW := Lib.hid hwn
      clear hx hwn hb
      have hset := take_set_snoc rs k (by rw [H1.out]; exact hlt)
      rw [H1.out] at hset
      generalize hr : r4At rs k = r at *
      have HSET := Lib.hid hset
      clear hr hset
      go_wp2_with fail
      refine (toResult_any _ _ _ _ _).mono ?_
      rintro e w2 ⟨rfl, hb2⟩
      have HW2 := Lib.hid (HW.out.below hb2)
      have HB2 := Lib.hid (Below.then HB.out hb2)
      obtain ⟨g', c', e1, -, -, -, hx', hf'⟩ := HW2.out.at_ hll (by omega)
      injection e1 with e1 _ e2
      injection e1 with e1
      injection e1 with e1 _ _
      subst e1
      subst e2
      obtain ⟨z0, z1, z2, z3⟩ := hx' k hlt
      have f0 := hf' (k * 4)
      have f1 := hf' (k * 4 + 1)
      have f2 := hf' (k * 4 + 2)
      have f3 := hf' (k * 4 + 3)
      have S := HW2.out.set_ hll k hlt r
      rw [HSET.out] at S
      have HS := Lib.hid S
      have B4 := (((HB2.out.setCell (p := ⟨w.heap.size, k * 4, none⟩) (Nat.le_refl _) (.int .i64 r.1)).setCell (p := ⟨w.heap.size, k * 4 + 1, none⟩) (Nat.le_refl _) (.int .i64 r.2.1)).setCell (p := ⟨w.heap.size, k * 4 + 2, none⟩) (Nat.le_refl _) (.int .i64 r.2.2.1)).setCell (p := ⟨w.heap.size, k * 4 + 3, none⟩) (Nat.le_refl _) (.int .i64 r.2.2.2)
      have HB4 := Lib.hid B4
      clear hx' hf' S B4 hb2 x0 x1 x2 x3 hll
      go_wp2
      go_roundw
      case rel => exact ⟨k + 1, by omega, by go_num, HS.out.1, HB4.out⟩
      case measure => simp [intOf]; omega
    · obtain rfl : k = n := by omega
      go_wp2
      go_ret
      refine ⟨_, rfl, ?_, hb⟩
      rw [List.take_of_length_le (by rw [H1.out]; exact Nat.le_refl _), Nat.sub_self, List.replicate_zero, List.append_nil] at hwn
      exact hwn
set_option maxHeartbeats 400000 in
theorem szResultS_any (v : Value) (rs : List R4) (left : Int) (w : World) (h : RdR w v rs) (h0 : 0 ≤ left) (h1 : left ≤ 16777216) :
    Calls Try.prog 48 #[v, .int .i64 left] w fun e w' => e = .returned (.int .i64 (szI rs.length left)) ∧ Below w.heap.size w w' := by
  obtain ⟨A, c, rfl, hl1, hm1, -⟩ := h
  unfold maxLen at hm1
  by_cases hz : 0 ≤ left - (rs.length : Int)
  all_goals
    go_enter Try.func48, Try.ntmps48
    go_wp2
    go_ret
    first
      | exact ⟨ret_int (szI_yes hz).symm, Below.refl _ _⟩
      | exact ⟨ret_int (szI_no (by omega)).symm, Below.refl _ _⟩
set_option maxHeartbeats 400000 in
theorem szLeague_any (s : Int) (sl : Value) (rs : List R4) (left : Int) (w : World) (h : RdR w sl rs) (h0 : 0 ≤ left) (h1 : left ≤ 16777216) :
    Calls Try.prog 9 #[.agg #[.int .i64 s, sl], .int .i64 left] w fun e w' => e = .returned (.int .i64 (szI rs.length left)) ∧ Below w.heap.size w w' := by
  have HR := Lib.hid h
  obtain ⟨A, c, rfl, -, -, -⟩ := h
  by_cases hz : 0 ≤ left - (rs.length : Int)
  all_goals
    go_enter Try.func9, Try.ntmps9
    go_wp2_with fail
    refine (szResultS_any _ rs left _ (HR.out.alloc _) h0 h1).mono ?_
    rintro e w1 ⟨rfl, hb⟩
    have HB := Lib.hid (Below.then (below_alloc1 _ _) hb)
    clear hb
    first | rw [szI_yes (by omega)] | rw [szI_no (by omega)]
    go_wp2
    go_ret
    first
      | exact ⟨ret_int (szI_yes (by omega)).symm, HB.out⟩
      | exact ⟨ret_int (szI_no (by omega)).symm, HB.out⟩
set_option maxHeartbeats 400000 in
theorem toLeague_any (s : Int) (sl : Value) (rs : List R4) (w : World) (h : RdR w sl rs) (hlen : rs.length ≤ 2097152) :
    Calls Try.prog 11 #[.agg #[.int .i64 s, sl]] w fun e w' => ∃ sl', e = .returned (.agg #[.int .i64 s, sl']) ∧ OwnR w' w.heap.size sl' rs ∧ Below w.heap.size w w' := by
  have HR := Lib.hid h
  obtain ⟨A, c, rfl, -, -, -⟩ := h
  go_enter Try.func11, Try.ntmps11
  go_wp2_with fail
  refine (toResultS_any _ rs _ (((HR.out.alloc _).alloc _).alloc _) hlen).mono ?_
  rintro e w1 ⟨sl', rfl, ho, hb⟩
  obtain ⟨A', c', rfl, -, -, -⟩ := ho.form
  have hs := hb.size
  simp at hs
  obtain ⟨hc, hf⟩ := bcell hb
  have HB := Lib.hid hb
  have HO := Lib.hid ho
  have F1 : ∀ o, w1.cell? ⟨w.heap.size + 1, o, none⟩ = _ := fun o => hc _ _ (by simp)
  have F2 : ∀ o, w1.cell? ⟨w.heap.size + 1 + 1, o, none⟩ = _ := fun o => hc _ _ (by simp)
  have G1 : ∀ o, w1.frozen? ⟨w.heap.size + 1, o, none⟩ = _ := fun o => hf _ _ (by simp)
  have G2 : ∀ o, w1.frozen? ⟨w.heap.size + 1 + 1, o, none⟩ = _ := fun o => hf _ _ (by simp)
  clear hb ho hc hf
  go_wp2
  have q0 : w1.cell? ⟨w.heap.size + 1, 0, none⟩ = some (.int .i64 0) := (F1 0).trans (by simp [go_sem])
  have q1 : w1.cell? ⟨w.heap.size + 1, 1, none⟩ = some (.slice none 0 0) := (F1 1).trans (by simp [go_sem])
  have RB := read_back (w1 := w1) (g := w.heap.size + 1) (h := w.heap.size + 1 + 1) (by omega) q0 q1 (u := .int .i64 s) (v := .slice A' rs.length c') (z := .slice A' rs.length c')
  obtain ⟨r0, r1⟩ := RB
  have hb' := HB.out
  have hlt : ∀ k, (Value.slice A' rs.length c').ownBlock = some k → w.heap.size + 1 + 1 + 1 ≤ k := fun k hk => by have := (HO.out.lt k hk).1; simp at this; omega
  have e1 : Below w.heap.size w w1 := Below.then (((below_alloc1 _ _).alloc (by simp) _).alloc (by simp; omega) _) hb'
  have ho1 := ((HO.out.kept (setCell_grown w1 ⟨w.heap.size + 1 + 1, 1, none⟩ (.slice A' rs.length c')) (own_ne hlt (by simp; try omega))).kept (setCell_grown _ ⟨w.heap.size + 1, 0, none⟩ (.int .i64 s)) (own_ne hlt (by simp; try omega))).kept (setCell_grown _ ⟨w.heap.size + 1, 1, none⟩ (.slice A' rs.length c')) (own_ne hlt (by simp; try omega))
  have e2 := ((e1.setCell (p := ⟨w.heap.size + 1 + 1, 1, none⟩) (by simp; omega) (.slice A' rs.length c')).setCell (p := ⟨w.heap.size + 1, 0, none⟩) (by simp) (.int .i64 s)).setCell (p := ⟨w.heap.size + 1, 1, none⟩) (by simp) (.slice A' rs.length c')
  refine bodyPost_ret (v := .agg #[.int .i64 s, .slice A' rs.length c']) (by simp only [results, Try.results11]; simp [go_sem, r0, r1]) rfl ⟨_, rfl, ho1.mono (by simp; omega), e2⟩
set_option maxHeartbeats 400000 in
theorem eqResult_refl (r : R4) (w : World) :
    Calls Try.prog 86 #[.agg #[.int .i64 r.1, .int .i64 r.2.1, .int .i64 r.2.2.1, .int .i64 r.2.2.2], .agg #[.int .i64 r.1, .int .i64 r.2.1, .int .i64 r.2.2.1, .int .i64 r.2.2.2]] w fun e w' => e = .returned (.bool true) ∧ Below w.heap.size w w' := by
  obtain ⟨a, b, c, d⟩ := r
  have h1 : (a != a) = false := by simp
  have h2 : (b != b) = false := by simp
  have h3 : (c != c) = false := by simp
  have h4 : (d != d) = false := by simp
  go_enter Try.func86, Try.ntmps86
  go_wp2
  go_ret
  exact ⟨rfl, (below_alloc1 _ _).alloc (by simp) _⟩
set_option maxHeartbeats 1000000 in
theorem eqResultS_refl (v1 v2 : Value) (rs : List R4) (w : World) (h1 : RdR w v1 rs) (h2 : RdR w v2 rs) :
    Calls Try.prog 53 #[v1, v2] w fun e w' => e = .returned (.bool true) ∧ Below w.heap.size w w' := by
  obtain ⟨A, c, rfl, hl1, hm1, hc1⟩ := h1
  obtain ⟨B, d, rfl, hl2, hm2, hc2⟩ := h2
  unfold maxLen at hm1 hm2
  generalize hn : rs.length = n at *
  have H3 := Lib.hid hc1
  have H4 := Lib.hid hc2
  have hne : ((n : Int) != (n : Int)) = false := by simp
  clear hn hc1 hc2
  go_enter Try.func53, Try.ntmps53
  go_wp2
  go_loopw [5] (fun i wr => ∃ k : Nat, k ≤ n ∧ i = .int .i64 k ∧ Below w.heap.size w wr) (fun i _ => n - (intOf i).toNat)
  case atStart => exact ⟨0, by omega, rfl, Below.refl _ _⟩
  case round =>
    obtain ⟨k, hk, rfl, hb⟩ := hrel
    by_cases hlt : k < n
    · obtain ⟨b, off, rfl, hbb, hx⟩ := H3.out (by omega)
      obtain ⟨b', off', rfl, hbb', hy⟩ := H4.out (by omega)
      obtain ⟨x0, x1, x2, x3⟩ := (hx k hlt).keep (w' := wr) (fun p hp => hb.cell (by rw [hp]; exact hbb))
      obtain ⟨y0, y1, y2, y3⟩ := (hy k hlt).keep (w' := wr) (fun p hp => hb.cell (by rw [hp]; exact hbb'))
      have X0 := cell_regrown x0
      have X1 := cell_regrown x1
      have X2 := cell_regrown x2
      have X3 := cell_regrown x3
      have Y0 := cell_regrown y0
      have Y1 := cell_regrown y1
      have Y2 := cell_regrown y2
      have Y3 := cell_regrown y3
      have k1 := quiet_below (w := wr) (fun W _ => eqResult_refl (r4At rs k) W)
      have HB := Lib.hid hb
      clear hx hy hb x0 x1 x2 x3 y0 y1 y2 y3
      go_wp2
      refine wp_region_below (by kernel_rfl) (by kernel_rfl) ?_
      repeat (go_big_quiet_step (first | (with_reducible exact k1 _ _)))
      refine wpQuiet_nil ?_
      intro w2 hb2
      have HB2 := Lib.hid (Below.then HB.out hb2)
      clear hb2 X0 X1 X2 X3 Y0 Y1 Y2 Y3 k1
      go_wp2
      go_roundw
      case rel => exact ⟨k + 1, by omega, by go_num, HB2.out⟩
      case measure => simp [intOf]; omega
    · have hge : ¬ ((k : Int) < (n : Int)) := by omega
      go_wp2
      go_ret
      exact ⟨rfl, hb⟩
set_option maxHeartbeats 400000 in
theorem eqLeague_refl (s : Int) (v1 v2 : Value) (rs : List R4) (w : World) (h1 : RdR w v1 rs) (h2 : RdR w v2 rs) :
    Calls Try.prog 14 #[.agg #[.int .i64 s, v1], .agg #[.int .i64 s, v2]] w fun e w' => e = .returned (.bool true) ∧ Below w.heap.size w w' := by
  have H1 := Lib.hid h1
  have H2 := Lib.hid h2
  obtain ⟨A, c, rfl, -, -, -⟩ := h1
  obtain ⟨B, d, rfl, -, -, -⟩ := h2
  have hne : (s != s) = false := by simp
  go_enter Try.func14, Try.ntmps14
  go_wp2_with fail
  refine (eqResultS_refl _ _ rs _ ((H1.out.alloc _).alloc _) ((H2.out.alloc _).alloc _)).mono ?_
  rintro e w1 ⟨rfl, hb⟩
  have HB := Lib.hid (Below.then ((below_alloc1 _ _).alloc (by simp) _) hb)
  clear hb
  go_wp2
  go_ret
  exact ⟨rfl, HB.out⟩
end Go.Proofs.Ytceeplhkokajhaa
