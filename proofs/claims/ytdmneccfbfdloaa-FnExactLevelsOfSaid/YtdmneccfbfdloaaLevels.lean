/- LevelsOf. -/
import Derived.Test.YtdmneccfbfdloaaOrdB
import Derived.Test.YtdmneccfbfdloaaRows2
namespace Go.Proofs.Ytdmneccfbfdloaa
open Go.RowKit Go.Sort
set_option maxRecDepth 100000
def lvLast (acc : List (List Int)) : List Int := acc.getD (acc.length - 1) []
def lvStep (L : List Int) (acc : List (List Int)) (i : Int) : List (List Int) :=
  if 0 < acc.length ∧ L.getD ((lvLast acc).getD 0 0).toNat 0 = L.getD i.toNat 0 then acc.set (acc.length - 1) (lvLast acc ++ [i]) else acc ++ [[i]]
theorem lvStep_eq (L : List Int) (acc : List (List Int)) (i : Int) : lvStep L acc i = if 0 < acc.length ∧ L.getD ((lvLast acc).getD 0 0).toNat 0 = L.getD i.toNat 0 then acc.set (acc.length - 1) (lvLast acc ++ [i]) else acc ++ [[i]] := rfl
def lvK (L o : List Int) (k : Nat) : List (List Int) := (o.take k).foldl (lvStep L) []
noncomputable def lvL (L : List Int) : List (List Int) := lvK L (obL L) (obL L).length
theorem lvK_succ (L o : List Int) {k : Nat} (h : k < o.length) : lvK L o (k + 1) = lvStep L (lvK L o k) (o.getD k 0) := by
  unfold lvK
  rw [List.take_succ_eq_append_getElem h, List.foldl_append, show o.getD k 0 = o[k] by simp [h]]
  rfl
def LvI (n k : Nat) (acc : List (List Int)) : Prop := acc.length ≤ k ∧ ∀ j, j < acc.length → 0 < (acc.getD j []).length ∧ (acc.getD j []).length ≤ k ∧ ∃ a : Nat, a < n ∧ (acc.getD j []).getD 0 0 = a
theorem LvI.step {n k : Nat} {acc : List (List Int)} (L : List Int) (h : LvI n k acc) {p : Nat} (hp : p < n) : LvI n (k + 1) (lvStep L acc p) := by
  unfold lvStep
  split
  · rename_i hc
    refine ⟨by rw [List.length_set]; have := h.1; omega, fun j hj => ?_⟩
    rw [List.length_set] at hj
    by_cases hjl : acc.length - 1 = j
    · subst hjl
      obtain ⟨h1, h2, a, ha, e⟩ := h.2 _ hj
      rw [show (acc.set (acc.length - 1) (lvLast acc ++ [(p : Int)])).getD (acc.length - 1) [] = lvLast acc ++ [(p : Int)] by simp [List.getD_eq_getElem?_getD, hj]]
      unfold lvLast
      refine ⟨by rw [List.length_append]; simp, by rw [List.length_append]; simp only [List.length_singleton]; omega, a, ha, ?_⟩
      rw [List.getD_eq_getElem?_getD, List.getElem?_append_left h1, ← List.getD_eq_getElem?_getD]
      exact e
    · rw [show (acc.set (acc.length - 1) (lvLast acc ++ [(p : Int)])).getD j [] = acc.getD j [] by simp [List.getD_eq_getElem?_getD, List.getElem?_set_ne hjl]]
      obtain ⟨h1, h2, h3⟩ := h.2 j hj
      exact ⟨h1, by omega, h3⟩
  · refine ⟨by simp; exact h.1, fun j hj => ?_⟩
    rw [List.length_append, List.length_singleton] at hj
    by_cases hjl : j < acc.length
    · rw [show (acc ++ [[(p : Int)]]).getD j [] = acc.getD j [] by simp [List.getD_eq_getElem?_getD, List.getElem?_append_left hjl]]
      obtain ⟨h1, h2, h3⟩ := h.2 j hjl
      exact ⟨h1, by omega, h3⟩
    · obtain rfl : j = acc.length := by omega
      rw [show (acc ++ [[(p : Int)]]).getD acc.length [] = [(p : Int)] by simp [List.getD_eq_getElem?_getD]]
      exact ⟨by simp, by simp, p, hp, rfl⟩
theorem lvK_I (L o : List Int) (n : Nat) (ho : ∀ k, k < o.length → ∃ p : Nat, p < n ∧ o.getD k 0 = p) : ∀ k, k ≤ o.length → LvI n k (lvK L o k) := by
  intro k
  induction k with
  | zero => intro _; exact ⟨Nat.le_refl _, fun j hj => absurd hj (by simp [lvK])⟩
  | succ k ih =>
    intro hk
    obtain ⟨p, hp, e⟩ := ho k (by omega)
    rw [lvK_succ L o (by omega), e]
    exact (ih (by omega)).step L hp
theorem obL_at (L : List Int) (k : Nat) (h : k < (obL L).length) : ∃ p : Nat, p < L.length ∧ (obL L).getD k 0 = p := by
  unfold obL at h ⊢
  split at h
  · simp at h
  · rename_i hc
    rw [if_neg hc]
    rw [ordK_len] at h
    exact ordK_at h
theorem lvL_bd (L : List Int) : (lvL L).length ≤ 40 ∧ ∀ r ∈ lvL L, r.length ≤ 40 := by
  have h1 := obL_len L
  have h2 := lvK_I L (obL L) L.length (obL_at L) _ (Nat.le_refl _)
  refine ⟨Nat.le_trans h2.1 h1, fun r hr => ?_⟩
  obtain ⟨j, hj, e⟩ := List.getElem_of_mem hr
  have := (h2.2 j hj).2.1
  rw [show (lvK L (obL L) (obL L).length).getD j [] = r by rw [← e, List.getD_eq_getElem?_getD, List.getElem?_eq_getElem (show j < (lvK L (obL L) (obL L).length).length from hj)]; rfl] at this
  omega
theorem Own2.apart_int {w : World} {b bo bi : Nat} {ov v : Value} {o : List Int} {rows : List (List Int)} (h1 : Own w b ov o) (h2 : Own2 w bo bi v rows) : ov.ownBlock = none ∨ ov.ownBlock ≠ v.ownBlock := by
  obtain ⟨us, -, ho, -, -⟩ := h2
  exact types_part h1 ho (by decide)
theorem Own2.lt {w : World} {bo bi : Nat} {v : Value} {rows : List (List Int)} (h : Own2 w bo bi v rows) : ∀ k, v.ownBlock = some k → bo ≤ k ∧ k < w.heap.size := by
  obtain ⟨us, -, ho, -, -⟩ := h
  exact World.ownsRow.lt ho
theorem own2_put {w w1 : World} {bo bi g n c : Nat} {us : List Value} {rows : List (List Int)} (h : Own2U w bo bi (.slice (some ⟨g, 0, none⟩) n c) us rows) (hn : rows.length = n) {i : Nat} (hi : i < rows.length) {u' : Value} {ys : List Int}
    (ho' : Own w1 bi u' ys) (hg : w.grownBy w1 (us.getD i (.slice none 0 0)).ownBlock) (hat : u'.ownBlock = (us.getD i (.slice none 0 0)).ownBlock ∨ ∃ k, u'.ownBlock = some k ∧ w.heap.size ≤ k) :
    Own2U (w1.setCell ⟨g, i, none⟩ u') bo bi (.slice (some ⟨g, 0, none⟩) n c) (us.set i u') (rows.set i ys) ∧ w1.grownBy (w1.setCell ⟨g, i, none⟩ u') (some g) ∧ w1.cell? ⟨g, i, none⟩ = some (us.getD i (.slice none 0 0)) ∧ w1.frozen? ⟨g, i, none⟩ = false := by
  subst hn
  obtain ⟨p1, p2⟩ := h.put rfl hi ho' hg hat
  obtain ⟨hl, ho, hr, hd⟩ := h
  have ho1 : w1.ownsRow bo 22 1 (.slice (some ⟨g, 0, none⟩) rows.length c) rows.length us := World.ownsRow.kept ho hg (apart_symm' (types_part (hr i hi) ho (by decide)))
  have h1 := World.ownsRow.cells ho1 (g := g) rfl i (us.getD i (.slice none 0 0)) (by simp [show i < us.length by omega])
  rw [Addr.add_lit, Nat.zero_add] at h1
  exact ⟨p1, p2, h1, World.ownsRow.frozenAt ho1 i⟩
theorem ne_of_lt_blk {g b : Nat} {n c : Nat} {row : Option Nat} (h : g < b) (hr : ∀ k, row = some k → b ≤ k) : (Value.slice (some ⟨g, 0, none⟩) n c).ownBlock = none ∨ (Value.slice (some ⟨g, 0, none⟩) n c).ownBlock ≠ row := by
  right
  intro e
  have := hr g e.symm
  omega
theorem Own2.apart_int' {w : World} {b bo bi g n c : Nat} {ov : Value} {o : List Int} {rows : List (List Int)} (h1 : Own w b ov o) (h2 : Own2 w bo bi (.slice (some ⟨g, 0, none⟩) n c) rows) : ov.ownBlock = none ∨ ov.ownBlock ≠ some g := by
  have := Own2.apart_int h1 h2
  simpa [Value.ownBlock] using this
set_option maxHeartbeats 8000000 in
theorem implLevels (v : Value) (L : List Int) (w : World) (h : Rd w v L) :
    Calls Try.prog 14 #[v] w fun e w' => ∃ v', e = .returned v' ∧ OwnRows w' w.heap.size v' (lvL L) ∧ Below w.heap.size w w' := by
  have HR := Lib.hid h
  obtain ⟨A, c, rfl, -, hm, -⟩ := h
  unfold maxLen at hm
  have HC := Lib.hid (implOrderBy (.slice A L.length c) L w HR.out)
  have HAT := Lib.hid (obL_at L)
  have HLV : Hid (lvL L = lvK L (obL L) (obL L).length) := rfl
  have hm40 := obL_len L
  have HFM := Lib.hid (fun k hk => lvK_I L (obL L) L.length (obL_at L) k hk)
  generalize hol : obL L = o at *
  clear hol
  generalize hml : o.length = m at *
  have HM := Lib.hid hml
  generalize hnl : L.length = n at *
  have HN := Lib.hid hnl
  clear hml hnl
  go_enter Try.func14, Try.ntmps14
  go_wp2_with fail
  refine HC.out.mono ?_
  rintro e w1 ⟨ov, rfl, ho1, hb1⟩
  have HOV := Lib.hid (ho1)
  have HB1 := Lib.hid (hb1)
  obtain ⟨OA, oc, hov, hoc1, hoc2, hoc3⟩ := HOV.out.form
  rw [HM.out] at hov hoc2 hoc3
  subst hov
  have HOG1 := Lib.hid hoc3
  unfold maxLen at hoc1
  clear ho1 hb1 hoc3
  go_wp2
  go_loopw [3, 10] (fun v i wr => ∃ k : Nat, k ≤ m ∧ i = .int .i64 k ∧ Hid (Own2 wr w.heap.size w1.heap.size v (lvK L o k)) ∧ Hid (Own wr w.heap.size (.slice OA m oc) o) ∧ Hid (Below w.heap.size w wr) ∧ Hid (w1.heap.size ≤ wr.heap.size)) (fun _ i _ => m - (intOf i).toNat)
  case atStart => exact ⟨0, by omega, rfl, Lib.hid (Own2.nil_ _ _ _), HOV, HB1, Lib.hid (Nat.le_refl _)⟩
  case round =>
    obtain ⟨wo, rfl⟩ : ∃ x, x = wr := ⟨_, rfl⟩
    obtain ⟨k, hk, rfl, HOWN, HOW, HB, HSZ⟩ := hrel
    obtain ⟨V, cv, rfl, hcv, hlv, hgv⟩ := HOWN.out.form
    unfold maxLen at hcv
    have HI := Lib.hid (HFM.out k hk)
    by_cases hlt : k < m
    · obtain ⟨p, hp, ep⟩ := HAT.out k hlt
      obtain ⟨og, oc', eo, hog1, -, -, hoc, -⟩ := HOW.out.at_ HM.out (by omega)
      injection eo with eo1 eo2 eo3
      subst eo1 eo3
      clear eo2
      have hog2 := (HOW.out.lt og rfl).2
      have zk := hoc k hlt
      rw [ep] at zk
      have HNX := Lib.hid (lvK_succ L o (k := k) (by rw [HM.out]; exact hlt))
      rw [ep] at HNX
      have HNS := Lib.hid (lvStep_eq L (lvK L o k) p)
      clear ep hoc
      obtain ⟨A', c', eL, -, -, hLx⟩ := HR.out.below HB.out
      injection eL with eL1 eL2 eL3
      subst eL1 eL3
      clear eL2
      rw [HN.out] at hLx
      obtain ⟨lg, lo, rfl, hlg, hLc⟩ := hLx (by omega)
      have zp := hLc p hp
      have HLC := Lib.hid hLc
      have hI1 := HI.out.1
      rw [Int.toNat_natCast] at HNS
      clear hLx hLc
      generalize hacc : lvK L o k = acc at *
      generalize hxp : L.getD p 0 = xp at *
      generalize hq : acc.length = q at *
      rcases Nat.eq_zero_or_pos q with hq0 | hq0
      · have HN0 : Hid (lvK L o (k + 1) = acc ++ [[(p : Int)]]) := Lib.hid (by rw [HNX.out, HNS.out, if_neg (by omega)])
        subst hq0
        clear HNS HNX zp
        go_wp2_with fail
        refine wp_region_below (by kernel_rfl) (by kernel_rfl) ?_
        repeat (go_big_quiet_step (first | (with_reducible fail)))
        refine wpQuiet_nil ?_
        intro wq hbq0
        have HBQ := Lib.hid hbq0
        clear hbq0
        have HOQ := Lib.hid (HOWN.out.below HBQ.out)
        have HOWQ := Lib.hid (HOW.out.below HBQ.out)
        have HBB := Lib.hid (HB.out.trans (HBQ.out.mono HB.out.size))
        have HSQ : Hid (w1.heap.size ≤ wq.heap.size) := Lib.hid (Nat.le_trans HSZ.out HBQ.out.size)
        have HU3 := Lib.hid (Own.lit wq wq.heap.size [(p : Int)] (Nat.le_refl _) (by simp))
        have HO4 := Lib.hid (HOQ.out.below (below_alloc1 wq (.cells #[.int .i64 p] 3)))
        have HOW4 := Lib.hid (HOWQ.out.below (below_alloc1 wq (.cells #[.int .i64 p] 3)))
        have HB4 := Lib.hid (HBB.out.alloc HBB.out.size (.cells #[.int .i64 p] 3))
        have HSB : Hid (w.heap.size ≤ wq.heap.size) := Lib.hid HBB.out.size
        go_wp2_with (at_builtin; refine wp_append2V (wq.alloc (.cells #[.int .i64 p] 3)) rfl (.tmp 45) (.tmp 48) rfl w.heap.size w1.heap.size _ acc _ [(p : Int)] wq (by rw [← hq]; rfl) HOQ.out (below_alloc1 _ _) HU3.out HSB.out HSQ.out (by simp [Act.eval]) (by omega) ?_; intro v' w5 hown5 hg5; have HB5 := Lib.hid (HB4.out.grown hg5 (by have := HSB.out; simp; omega) (fun k hk => (HO4.out.lt k hk).1)); have HOW5 := Lib.hid (HOW4.out.kept hg5 (Own2.apart_int HOW4.out HO4.out)); have HS5 : Hid (w1.heap.size ≤ w5.heap.size) := Lib.hid (Nat.le_trans HSQ.out (Nat.le_trans (by simp) hg5.size)); have HOWN5 := Lib.hid hown5; clear hown5 hg5)
        go_roundw
        case rel => exact ⟨k + 1, by omega, by go_num, Lib.hid (by rw [HN0.out]; exact HOWN5.out), HOW5, HB5, HS5⟩
        case measure => simp [intOf]; omega
      · obtain ⟨r, rfl⟩ : ∃ r, q = r + 1 := ⟨q - 1, by omega⟩
        obtain ⟨gv, rfl, hgv1, hgv2⟩ := hgv (by omega)
        obtain ⟨us, hU⟩ := HOWN.out
        have HU := Lib.hid hU
        obtain ⟨hz, hfz⟩ := hU.cell hq (k := r) (by rw [hq]; omega)
        have hrow := hU.2.2.1 r (by rw [hq]; omega)
        obtain ⟨hr1, hr2, a, ha, ea⟩ := HI.out.2 r (by rw [hq]; omega)
        have HUL := Lib.hid hU.1
        have hla : lvLast acc = acc.getD r [] := by unfold lvLast; rw [hq]; rfl
        rw [hla, ea, Int.toNat_natCast, show r + 1 - 1 = r from rfl] at HNS
        have za := HLC.out a ha
        obtain ⟨gb, cb, eb, hgb, hcb, hlb, hbc, -⟩ := hrow.at_ rfl hr1
        have zb := hbc 0 hr1
        rw [ea] at zb
        rw [eb] at hz
        have HUE := Lib.hid eb
        have HROW := Lib.hid hrow
        have hgb2 := (hrow.lt gb (by rw [eb]; rfl)).2
        rw [eb] at HROW
        have hwr : IntKind.i64.wrap (((r + 1 : Nat) : Int) - 1) = (r : Int) := by rw [IntWalk.i64_in _ (by omega)]; omega
        clear hU hrow hla ea hbc eb
        generalize hrw : acc.getD r [] = row at *
        generalize hxa : L.getD a 0 = xa at *
        generalize hrl : row.length = rl at *
        by_cases hx : xa = xp
        · have HN0 : Hid (lvK L o (k + 1) = acc.set r (row ++ [(p : Int)])) := Lib.hid (by rw [HNX.out, HNS.out, if_pos ⟨by omega, hx⟩])
          clear HNS HNX
          go_wp2_with fail
          have c0 := cell_regrown hz
          have c1 := cell_regrown zb
          have c2 := cell_regrown za
          have c3 := cell_regrown zp
          refine wp_region_below (by kernel_rfl) (by kernel_rfl) ?_
          repeat (go_big_quiet_step (first | (with_reducible fail)))
          refine wpQuiet_nil ?_
          intro wq hbq0
          have hzq := (hbq0.cell (p := ⟨gv, r, none⟩) hgv2).trans hz
          have HBQ := Lib.hid hbq0
          clear hbq0 c0 c1 c2 c3 hz zb za zp
          have HUQ : Hid (Own2U wq w.heap.size w1.heap.size (.slice (some ⟨gv, 0, none⟩) (r + 1) cv) us acc) := Lib.hid ⟨HUL.out, ownsRow_below HU.out.2.1 HBQ.out, fun k hk => (HU.out.2.2.1 k hk).below HBQ.out, HU.out.2.2.2⟩
          have HOWQ := Lib.hid (HOW.out.below HBQ.out)
          have HROWQ := Lib.hid (HROW.out.below HBQ.out)
          have HBB := Lib.hid (HB.out.trans (HBQ.out.mono HB.out.size))
          have HSQ : Hid (w1.heap.size ≤ wq.heap.size) := Lib.hid (Nat.le_trans HSZ.out HBQ.out.size)
          have HOG : Hid (og < w1.heap.size) := Lib.hid (by obtain ⟨g, e, -, h⟩ := HOG1.out (by omega); injection e with e; injection e with e; omega)
          go_wp2_with (at_builtin; refine wp_append1at wq rfl (.tmp 40) (.tmp 42) rfl w1.heap.size _ row p rfl HROWQ.out (by simp [Act.eval]) (by omega) HSQ.out ?_; intro v' w5 ho5 hg5 hat5; obtain ⟨h5, hf5, hz5, hff5⟩ := own2_put HUQ.out hq (i := r) (by rw [hq]; omega) ho5 (by rw [HUE.out]; exact hg5) (by rw [HUE.out]; exact hat5); have HOW5 := Lib.hid ((HOWQ.out.kept hg5 (ne_of_lt_blk HOG.out (fun k hk => (HROWQ.out.lt k hk).1))).kept hf5 (Own2.apart_int' HOWQ.out ⟨us, HUQ.out⟩)); have HB5 := Lib.hid ((HBB.out.grown hg5 HBB.out.size (fun k hk => Nat.le_trans HB1.out.size (HROWQ.out.lt k hk).1)).grown hf5 (Nat.le_trans HBB.out.size hg5.size) (fun k hk => by injection hk with hk; omega)); have HS5 : Hid (w1.heap.size ≤ w5.heap.size) := Lib.hid (Nat.le_trans HSQ.out hg5.size); have H5 := Lib.hid h5; obtain ⟨V5, c5, hv5, -, -, -⟩ := ho5.form; rw [List.length_append, List.length_singleton, hrl] at hv5; subst hv5; clear ho5 hg5 hat5 h5 hf5)
          go_roundw
          case rel => exact ⟨k + 1, by omega, by go_num, Lib.hid (by rw [HN0.out]; exact ⟨_, H5.out⟩), HOW5, HB5, Lib.hid (by have := HS5.out; simpa using this)⟩
          case measure => simp [intOf]; omega
        · have HN0 : Hid (lvK L o (k + 1) = acc ++ [[(p : Int)]]) := Lib.hid (by rw [HNX.out, HNS.out, if_neg (fun h => hx h.2)])
          clear HNS HNX
          go_wp2_with fail
          have c0 := cell_regrown hz
          have c1 := cell_regrown zb
          have c2 := cell_regrown za
          have c3 := cell_regrown zp
          refine wp_region_below (by kernel_rfl) (by kernel_rfl) ?_
          repeat (go_big_quiet_step (first | (with_reducible fail)))
          refine wpQuiet_nil ?_
          intro wq hbq0
          have HBQ := Lib.hid hbq0
          clear hbq0 c0 c1 c2 c3 hz zb za zp
          have HOQ := Lib.hid (HOWN.out.below HBQ.out)
          have HOWQ := Lib.hid (HOW.out.below HBQ.out)
          have HBB := Lib.hid (HB.out.trans (HBQ.out.mono HB.out.size))
          have HSQ : Hid (w1.heap.size ≤ wq.heap.size) := Lib.hid (Nat.le_trans HSZ.out HBQ.out.size)
          have HU3 := Lib.hid (Own.lit wq wq.heap.size [(p : Int)] (Nat.le_refl _) (by simp))
          have HO4 := Lib.hid (HOQ.out.below (below_alloc1 wq (.cells #[.int .i64 p] 3)))
          have HOW4 := Lib.hid (HOWQ.out.below (below_alloc1 wq (.cells #[.int .i64 p] 3)))
          have HB4 := Lib.hid (HBB.out.alloc HBB.out.size (.cells #[.int .i64 p] 3))
          have HSB : Hid (w.heap.size ≤ wq.heap.size) := Lib.hid HBB.out.size
          go_wp2_with (at_builtin; refine wp_append2V (wq.alloc (.cells #[.int .i64 p] 3)) rfl (.tmp 45) (.tmp 48) rfl w.heap.size w1.heap.size _ acc _ [(p : Int)] wq (by rw [← hq]; rfl) HOQ.out (below_alloc1 _ _) HU3.out HSB.out HSQ.out (by simp [Act.eval]) (by omega) ?_; intro v' w5 hown5 hg5; have HB5 := Lib.hid (HB4.out.grown hg5 (by have := HSB.out; simp; omega) (fun k hk => (HO4.out.lt k hk).1)); have HOW5 := Lib.hid (HOW4.out.kept hg5 (Own2.apart_int HOW4.out HO4.out)); have HS5 : Hid (w1.heap.size ≤ w5.heap.size) := Lib.hid (Nat.le_trans HSQ.out (Nat.le_trans (by simp) hg5.size)); have HOWN5 := Lib.hid hown5; clear hown5 hg5)
          go_roundw
          case rel => exact ⟨k + 1, by omega, by go_num, Lib.hid (by rw [HN0.out]; exact HOWN5.out), HOW5, HB5, HS5⟩
          case measure => simp [intOf]; omega
    · obtain rfl : m = k := by omega
      go_wp2
      go_ret
      exact ⟨_, rfl, by rw [HLV.out]; exact HOWN.out.rows (Nat.le_refl _) HB1.out.size, HB.out⟩
set_option maxHeartbeats 8000000 in
theorem specLevels (v : Value) (L : List Int) (w : World) (h : Rd w v L) :
    Calls Try.prog 13 #[v] w fun e w' => ∃ v', e = .returned v' ∧ OwnRows w' w.heap.size v' (lvL L) ∧ Below w.heap.size w w' := by
  have HR := Lib.hid h
  obtain ⟨A, c, rfl, -, hm, -⟩ := h
  unfold maxLen at hm
  by_cases hbig : 40 < L.length
  · have HZ : Hid (lvL L = []) := Lib.hid (by unfold lvL obL; rw [if_pos hbig]; rfl)
    generalize L.length = n at *
    go_enter Try.func13, Try.ntmps13
    go_wp2
    go_ret
    exact ⟨_, rfl, by rw [HZ.out]; exact OwnRows.nil_ _ _, Below.refl _ _⟩
  have HC : Hid (∀ W, Rd W (.slice A L.length c) L → Calls Try.prog 33 #[.slice A L.length c] W fun e w' => ∃ v', e = .returned v' ∧ Own w' W.heap.size v' (obL L) ∧ Below W.heap.size W w') := Lib.hid (fun W hW => by
    have := l09Order_any (.slice A L.length c) L W hW (by omega)
    unfold obL
    rw [if_neg hbig]
    exact this)
  have HAT := Lib.hid (obL_at L)
  have HLV : Hid (lvL L = lvK L (obL L) (obL L).length) := rfl
  have hm40 := obL_len L
  have HFM := Lib.hid (fun k hk => lvK_I L (obL L) L.length (obL_at L) k hk)
  generalize hol : obL L = o at *
  clear hol
  generalize hml : o.length = m at *
  have HM := Lib.hid hml
  generalize hnl : L.length = n at *
  have HN := Lib.hid hnl
  clear hml hnl
  go_enter Try.func13, Try.ntmps13
  go_wp2_with fail
  refine (HC.out _ (HR.out.below (below_alloc1 w (.cells #[] 22)))).mono ?_
  rintro e w1 ⟨ov, rfl, ho1, hb1⟩
  have HOV := Lib.hid (Own.mono (b' := w.heap.size) ho1 (by simp))
  have HB1 := Lib.hid (Below.then (below_alloc1 w (.cells #[] 22)) hb1)
  have HV0 := Lib.hid ((Own2.lit0 w w.heap.size w1.heap.size (Nat.le_refl _)).below hb1)
  obtain ⟨OA, oc, hov, hoc1, hoc2, hoc3⟩ := HOV.out.form
  rw [HM.out] at hov hoc2 hoc3
  subst hov
  have HOG1 := Lib.hid hoc3
  unfold maxLen at hoc1
  clear ho1 hb1 hoc3
  go_wp2
  go_loopw [3, 14] (fun v i wr => ∃ k : Nat, k ≤ m ∧ i = .int .i64 k ∧ Hid (Own2 wr w.heap.size w1.heap.size v (lvK L o k)) ∧ Hid (Own wr w.heap.size (.slice OA m oc) o) ∧ Hid (Below w.heap.size w wr) ∧ Hid (w1.heap.size ≤ wr.heap.size)) (fun _ i _ => m - (intOf i).toNat)
  case atStart => exact ⟨0, by omega, rfl, Lib.hid HV0.out, HOV, HB1, Lib.hid (Nat.le_refl _)⟩
  case round =>
    obtain ⟨wo, rfl⟩ : ∃ x, x = wr := ⟨_, rfl⟩
    obtain ⟨k, hk, rfl, HOWN, HOW, HB, HSZ⟩ := hrel
    obtain ⟨V, cv, rfl, hcv, hlv, hgv⟩ := HOWN.out.form
    unfold maxLen at hcv
    have HI := Lib.hid (HFM.out k hk)
    by_cases hlt : k < m
    · obtain ⟨p, hp, ep⟩ := HAT.out k hlt
      obtain ⟨og, oc', eo, hog1, -, -, hoc, -⟩ := HOW.out.at_ HM.out (by omega)
      injection eo with eo1 eo2 eo3
      subst eo1 eo3
      clear eo2
      have hog2 := (HOW.out.lt og rfl).2
      have zk := hoc k hlt
      rw [ep] at zk
      have HNX := Lib.hid (lvK_succ L o (k := k) (by rw [HM.out]; exact hlt))
      rw [ep] at HNX
      have HNS := Lib.hid (lvStep_eq L (lvK L o k) p)
      clear ep hoc
      obtain ⟨A', c', eL, -, -, hLx⟩ := HR.out.below HB.out
      injection eL with eL1 eL2 eL3
      subst eL1 eL3
      clear eL2
      rw [HN.out] at hLx
      obtain ⟨lg, lo, rfl, hlg, hLc⟩ := hLx (by omega)
      have zp := hLc p hp
      have HLC := Lib.hid hLc
      have hI1 := HI.out.1
      rw [Int.toNat_natCast] at HNS
      clear hLx hLc
      generalize hacc : lvK L o k = acc at *
      generalize hxp : L.getD p 0 = xp at *
      generalize hq : acc.length = q at *
      rcases Nat.eq_zero_or_pos q with hq0 | hq0
      · have HN0 : Hid (lvK L o (k + 1) = acc ++ [[(p : Int)]]) := Lib.hid (by rw [HNX.out, HNS.out, if_neg (by omega)])
        subst hq0
        clear HNS HNX zp
        go_wp2_with fail
        refine wp_region_below (by kernel_rfl) (by kernel_rfl) ?_
        repeat (go_big_quiet_step (first | (with_reducible fail)))
        refine wpQuiet_nil ?_
        intro wq hbq0
        have HBQ := Lib.hid hbq0
        clear hbq0
        have HOQ := Lib.hid (HOWN.out.below HBQ.out)
        have HOWQ := Lib.hid (HOW.out.below HBQ.out)
        have HBB := Lib.hid (HB.out.trans (HBQ.out.mono HB.out.size))
        have HSQ : Hid (w1.heap.size ≤ wq.heap.size) := Lib.hid (Nat.le_trans HSZ.out HBQ.out.size)
        have HU3 := Lib.hid (Own.lit wq wq.heap.size [(p : Int)] (Nat.le_refl _) (by simp))
        have HO4 := Lib.hid (HOQ.out.below (below_alloc1 wq (.cells #[.int .i64 p] 3)))
        have HOW4 := Lib.hid (HOWQ.out.below (below_alloc1 wq (.cells #[.int .i64 p] 3)))
        have HB4 := Lib.hid (HBB.out.alloc HBB.out.size (.cells #[.int .i64 p] 3))
        have HSB : Hid (w.heap.size ≤ wq.heap.size) := Lib.hid HBB.out.size
        go_wp2_with (at_builtin; refine wp_append2V (wq.alloc (.cells #[.int .i64 p] 3)) rfl (.tmp 51) (.tmp 54) rfl w.heap.size w1.heap.size _ acc _ [(p : Int)] wq (by rw [← hq]; rfl) HOQ.out (below_alloc1 _ _) HU3.out HSB.out HSQ.out (by simp [Act.eval]) (by omega) ?_; intro v' w5 hown5 hg5; have HB5 := Lib.hid (HB4.out.grown hg5 (by have := HSB.out; simp; omega) (fun k hk => (HO4.out.lt k hk).1)); have HOW5 := Lib.hid (HOW4.out.kept hg5 (Own2.apart_int HOW4.out HO4.out)); have HS5 : Hid (w1.heap.size ≤ w5.heap.size) := Lib.hid (Nat.le_trans HSQ.out (Nat.le_trans (by simp) hg5.size)); have HOWN5 := Lib.hid hown5; clear hown5 hg5)
        go_roundw
        case rel => exact ⟨k + 1, by omega, by go_num, Lib.hid (by rw [HN0.out]; exact HOWN5.out), HOW5, HB5, HS5⟩
        case measure => simp [intOf]; omega
      · obtain ⟨r, rfl⟩ : ∃ r, q = r + 1 := ⟨q - 1, by omega⟩
        obtain ⟨gv, rfl, hgv1, hgv2⟩ := hgv (by omega)
        obtain ⟨us, hU⟩ := HOWN.out
        have HU := Lib.hid hU
        obtain ⟨hz, hfz⟩ := hU.cell hq (k := r) (by rw [hq]; omega)
        have hrow := hU.2.2.1 r (by rw [hq]; omega)
        obtain ⟨hr1, hr2, a, ha, ea⟩ := HI.out.2 r (by rw [hq]; omega)
        have HUL := Lib.hid hU.1
        have hla : lvLast acc = acc.getD r [] := by unfold lvLast; rw [hq]; rfl
        rw [hla, ea, Int.toNat_natCast, show r + 1 - 1 = r from rfl] at HNS
        have za := HLC.out a ha
        obtain ⟨gb, cb, eb, hgb, hcb, hlb, hbc, -⟩ := hrow.at_ rfl hr1
        have zb := hbc 0 hr1
        rw [ea] at zb
        rw [eb] at hz
        have HUE := Lib.hid eb
        have HROW := Lib.hid hrow
        have hgb2 := (hrow.lt gb (by rw [eb]; rfl)).2
        rw [eb] at HROW
        have hwr : IntKind.i64.wrap (((r + 1 : Nat) : Int) - 1) = (r : Int) := by rw [IntWalk.i64_in _ (by omega)]; omega
        clear hU hrow hla ea hbc eb
        generalize hrw : acc.getD r [] = row at *
        generalize hxa : L.getD a 0 = xa at *
        generalize hrl : row.length = rl at *
        by_cases hx : xa = xp
        · have HN0 : Hid (lvK L o (k + 1) = acc.set r (row ++ [(p : Int)])) := Lib.hid (by rw [HNX.out, HNS.out, if_pos ⟨by omega, hx⟩])
          clear HNS HNX
          go_wp2_with fail
          have c0 := cell_regrown hz
          have c1 := cell_regrown zb
          have c2 := cell_regrown za
          have c3 := cell_regrown zp
          refine wp_region_below (by kernel_rfl) (by kernel_rfl) ?_
          repeat (go_big_quiet_step (first | (with_reducible fail)))
          refine wpQuiet_nil ?_
          intro wq hbq0
          have hzq := (hbq0.cell (p := ⟨gv, r, none⟩) hgv2).trans hz
          have HBQ := Lib.hid hbq0
          clear hbq0 c0 c1 c2 c3 hz zb za zp
          have HUQ : Hid (Own2U wq w.heap.size w1.heap.size (.slice (some ⟨gv, 0, none⟩) (r + 1) cv) us acc) := Lib.hid ⟨HUL.out, ownsRow_below HU.out.2.1 HBQ.out, fun k hk => (HU.out.2.2.1 k hk).below HBQ.out, HU.out.2.2.2⟩
          have HOWQ := Lib.hid (HOW.out.below HBQ.out)
          have HROWQ := Lib.hid (HROW.out.below HBQ.out)
          have HBB := Lib.hid (HB.out.trans (HBQ.out.mono HB.out.size))
          have HSQ : Hid (w1.heap.size ≤ wq.heap.size) := Lib.hid (Nat.le_trans HSZ.out HBQ.out.size)
          have HOG : Hid (og < w1.heap.size) := Lib.hid (by obtain ⟨g, e, -, h⟩ := HOG1.out (by omega); injection e with e; injection e with e; omega)
          go_wp2_with (at_builtin; refine wp_append1at wq rfl (.tmp 46) (.tmp 48) rfl w1.heap.size _ row p rfl HROWQ.out (by simp [Act.eval]) (by omega) HSQ.out ?_; intro v' w5 ho5 hg5 hat5; obtain ⟨h5, hf5, hz5, hff5⟩ := own2_put HUQ.out hq (i := r) (by rw [hq]; omega) ho5 (by rw [HUE.out]; exact hg5) (by rw [HUE.out]; exact hat5); have HOW5 := Lib.hid ((HOWQ.out.kept hg5 (ne_of_lt_blk HOG.out (fun k hk => (HROWQ.out.lt k hk).1))).kept hf5 (Own2.apart_int' HOWQ.out ⟨us, HUQ.out⟩)); have HB5 := Lib.hid ((HBB.out.grown hg5 HBB.out.size (fun k hk => Nat.le_trans HB1.out.size (HROWQ.out.lt k hk).1)).grown hf5 (Nat.le_trans HBB.out.size hg5.size) (fun k hk => by injection hk with hk; omega)); have HS5 : Hid (w1.heap.size ≤ w5.heap.size) := Lib.hid (Nat.le_trans HSQ.out hg5.size); have H5 := Lib.hid h5; obtain ⟨V5, c5, hv5, -, -, -⟩ := ho5.form; rw [List.length_append, List.length_singleton, hrl] at hv5; subst hv5; clear ho5 hg5 hat5 h5 hf5)
          go_roundw
          case rel => exact ⟨k + 1, by omega, by go_num, Lib.hid (by rw [HN0.out]; exact ⟨_, H5.out⟩), HOW5, HB5, Lib.hid (by have := HS5.out; simpa using this)⟩
          case measure => simp [intOf]; omega
        · have HN0 : Hid (lvK L o (k + 1) = acc ++ [[(p : Int)]]) := Lib.hid (by rw [HNX.out, HNS.out, if_neg (fun h => hx h.2)])
          clear HNS HNX
          go_wp2_with fail
          have c0 := cell_regrown hz
          have c1 := cell_regrown zb
          have c2 := cell_regrown za
          have c3 := cell_regrown zp
          refine wp_region_below (by kernel_rfl) (by kernel_rfl) ?_
          repeat (go_big_quiet_step (first | (with_reducible fail)))
          refine wpQuiet_nil ?_
          intro wq hbq0
          have HBQ := Lib.hid hbq0
          clear hbq0 c0 c1 c2 c3 hz zb za zp
          have HOQ := Lib.hid (HOWN.out.below HBQ.out)
          have HOWQ := Lib.hid (HOW.out.below HBQ.out)
          have HBB := Lib.hid (HB.out.trans (HBQ.out.mono HB.out.size))
          have HSQ : Hid (w1.heap.size ≤ wq.heap.size) := Lib.hid (Nat.le_trans HSZ.out HBQ.out.size)
          have HU3 := Lib.hid (Own.lit wq wq.heap.size [(p : Int)] (Nat.le_refl _) (by simp))
          have HO4 := Lib.hid (HOQ.out.below (below_alloc1 wq (.cells #[.int .i64 p] 3)))
          have HOW4 := Lib.hid (HOWQ.out.below (below_alloc1 wq (.cells #[.int .i64 p] 3)))
          have HB4 := Lib.hid (HBB.out.alloc HBB.out.size (.cells #[.int .i64 p] 3))
          have HSB : Hid (w.heap.size ≤ wq.heap.size) := Lib.hid HBB.out.size
          go_wp2_with (at_builtin; refine wp_append2V (wq.alloc (.cells #[.int .i64 p] 3)) rfl (.tmp 51) (.tmp 54) rfl w.heap.size w1.heap.size _ acc _ [(p : Int)] wq (by rw [← hq]; rfl) HOQ.out (below_alloc1 _ _) HU3.out HSB.out HSQ.out (by simp [Act.eval]) (by omega) ?_; intro v' w5 hown5 hg5; have HB5 := Lib.hid (HB4.out.grown hg5 (by have := HSB.out; simp; omega) (fun k hk => (HO4.out.lt k hk).1)); have HOW5 := Lib.hid (HOW4.out.kept hg5 (Own2.apart_int HOW4.out HO4.out)); have HS5 : Hid (w1.heap.size ≤ w5.heap.size) := Lib.hid (Nat.le_trans HSQ.out (Nat.le_trans (by simp) hg5.size)); have HOWN5 := Lib.hid hown5; clear hown5 hg5)
          go_roundw
          case rel => exact ⟨k + 1, by omega, by go_num, Lib.hid (by rw [HN0.out]; exact HOWN5.out), HOW5, HB5, HS5⟩
          case measure => simp [intOf]; omega
    · obtain rfl : m = k := by omega
      go_wp2
      go_ret
      exact ⟨_, rfl, by rw [HLV.out]; exact HOWN.out.rows (Nat.le_refl _) HB1.out.size, HB.out⟩
end Go.Proofs.Ytdmneccfbfdloaa
