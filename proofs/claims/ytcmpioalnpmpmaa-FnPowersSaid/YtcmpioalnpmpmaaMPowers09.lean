/- Texts put together: Levels, Rank, DoAgree, PwF, ScsOf, LwS, Second, TrC, LexC, RowsF, OfBits. -/
import Derived.Test.YtcmpioalnpmpmaaMPowers08
import Derived.Test.YtcmpioalnpmpmaaMPowers01
import Derived.Test.YtcmpioalnpmpmaaMPowers02
import Derived.Test.YtcmpioalnpmpmaaMPowers03
import Derived.Test.YtcmpioalnpmpmaaMPowers04
import Derived.Test.YtcmpioalnpmpmaaMPowers05
import Derived.Deep.RegionHeld3
namespace Go.Proofs.Ytcmpioalnpmpmaa
open Go.RowKit Go.Sort
set_option maxRecDepth 100000
def lvLast (acc : List (List Int)) : List Int := acc.getD (acc.length - 1) []
def lvStep (L : List Int) (acc : List (List Int)) (i : Int) : List (List Int) :=
  if 0 < acc.length ∧ L.getD ((lvLast acc).getD 0 0).toNat 0 = L.getD i.toNat 0 then acc.set (acc.length - 1) (lvLast acc ++ [i]) else acc ++ [[i]]
theorem lvStep_eq (L : List Int) (acc : List (List Int)) (i : Int) : lvStep L acc i = if 0 < acc.length ∧ L.getD ((lvLast acc).getD 0 0).toNat 0 = L.getD i.toNat 0 then acc.set (acc.length - 1) (lvLast acc ++ [i]) else acc ++ [[i]] := rfl
def lvK (L o : List Int) (k : Nat) : List (List Int) := (o.take k).foldl (lvStep L) []
noncomputable def lvL (L : List Int) : List (List Int) := lvK L (obL L) (obL L).length
theorem lvK_succ (L o : List Int) {k : Nat} (h : k < o.length) : lvK L o (k + 1) = lvStep L (lvK L o k) (o.getD k 0) := by
  unfold lvK
  rw [List.take_succ_eq_append_getElem h, List.foldl_append, show o.getD k 0 = o[k] by simp [h]]
  rfl
def LvI (n k : Nat) (acc : List (List Int)) : Prop := acc.length ≤ k ∧ ∀ j, j < acc.length → 0 < (acc.getD j []).length ∧ (acc.getD j []).length ≤ k ∧ ∃ a : Nat, a < n ∧ (acc.getD j []).getD 0 0 = a
theorem LvI.step {n k : Nat} {acc : List (List Int)} (L : List Int) (h : LvI n k acc) {p : Nat} (hp : p < n) : LvI n (k + 1) (lvStep L acc p) := by
  unfold lvStep
  split
  · rename_i hc
    refine ⟨by rw [List.length_set]; have := h.1; omega, fun j hj => ?_⟩
    rw [List.length_set] at hj
    by_cases hjl : acc.length - 1 = j
    · subst hjl
      obtain ⟨h1, h2, a, ha, e⟩ := h.2 _ hj
      rw [show (acc.set (acc.length - 1) (lvLast acc ++ [(p : Int)])).getD (acc.length - 1) [] = lvLast acc ++ [(p : Int)] by simp [List.getD_eq_getElem?_getD, hj]]
      unfold lvLast
      refine ⟨by rw [List.length_append]; simp, by rw [List.length_append]; simp only [List.length_singleton]; omega, a, ha, ?_⟩
      rw [List.getD_eq_getElem?_getD, List.getElem?_append_left h1, ← List.getD_eq_getElem?_getD]
      exact e
    · rw [show (acc.set (acc.length - 1) (lvLast acc ++ [(p : Int)])).getD j [] = acc.getD j [] by simp [List.getD_eq_getElem?_getD, List.getElem?_set_ne hjl]]
      obtain ⟨h1, h2, h3⟩ := h.2 j hj
      exact ⟨h1, by omega, h3⟩
  · refine ⟨by simp; exact h.1, fun j hj => ?_⟩
    rw [List.length_append, List.length_singleton] at hj
    by_cases hjl : j < acc.length
    · rw [show (acc ++ [[(p : Int)]]).getD j [] = acc.getD j [] by simp [List.getD_eq_getElem?_getD, List.getElem?_append_left hjl]]
      obtain ⟨h1, h2, h3⟩ := h.2 j hjl
      exact ⟨h1, by omega, h3⟩
    · obtain rfl : j = acc.length := by omega
      rw [show (acc ++ [[(p : Int)]]).getD acc.length [] = [(p : Int)] by simp [List.getD_eq_getElem?_getD]]
      exact ⟨by simp, by simp, p, hp, rfl⟩
theorem lvK_I (L o : List Int) (n : Nat) (ho : ∀ k, k < o.length → ∃ p : Nat, p < n ∧ o.getD k 0 = p) : ∀ k, k ≤ o.length → LvI n k (lvK L o k) := by
  intro k
  induction k with
  | zero => intro _; exact ⟨Nat.le_refl _, fun j hj => absurd hj (by simp [lvK])⟩
  | succ k ih =>
    intro hk
    obtain ⟨p, hp, e⟩ := ho k (by omega)
    rw [lvK_succ L o (by omega), e]
    exact (ih (by omega)).step L hp
theorem obL_at (L : List Int) (k : Nat) (h : k < (obL L).length) : ∃ p : Nat, p < L.length ∧ (obL L).getD k 0 = p := by
  unfold obL at h ⊢
  split at h
  · simp at h
  · rename_i hc
    rw [if_neg hc]
    rw [ordK_len] at h
    exact ordK_at h
theorem lvL_bd (L : List Int) : (lvL L).length ≤ 40 ∧ ∀ r ∈ lvL L, r.length ≤ 40 := by
  have h1 := obL_len L
  have h2 := lvK_I L (obL L) L.length (obL_at L) _ (Nat.le_refl _)
  refine ⟨Nat.le_trans h2.1 h1, fun r hr => ?_⟩
  obtain ⟨j, hj, e⟩ := List.getElem_of_mem hr
  have := (h2.2 j hj).2.1
  rw [show (lvK L (obL L) (obL L).length).getD j [] = r by rw [← e, List.getD_eq_getElem?_getD, List.getElem?_eq_getElem (show j < (lvK L (obL L) (obL L).length).length from hj)]; rfl] at this
  omega
theorem Own2.apart_int {w : World} {b bo bi : Nat} {ov v : Value} {o : List Int} {rows : List (List Int)} (h1 : Own w b ov o) (h2 : Own2 w bo bi v rows) : ov.ownBlock = none ∨ ov.ownBlock ≠ v.ownBlock := by
  obtain ⟨us, -, ho, -, -⟩ := h2
  exact types_part h1 ho (by decide)
theorem Own2.lt {w : World} {bo bi : Nat} {v : Value} {rows : List (List Int)} (h : Own2 w bo bi v rows) : ∀ k, v.ownBlock = some k → bo ≤ k ∧ k < w.heap.size := by
  obtain ⟨us, -, ho, -, -⟩ := h
  exact World.ownsRow.lt ho
theorem own2_put {w w1 : World} {bo bi g n c : Nat} {us : List Value} {rows : List (List Int)} (h : Own2U w bo bi (.slice (some ⟨g, 0, none⟩) n c) us rows) (hn : rows.length = n) {i : Nat} (hi : i < rows.length) {u' : Value} {ys : List Int}
    (ho' : Own w1 bi u' ys) (hg : w.grownBy w1 (us.getD i (.slice none 0 0)).ownBlock) (hat : u'.ownBlock = (us.getD i (.slice none 0 0)).ownBlock ∨ ∃ k, u'.ownBlock = some k ∧ w.heap.size ≤ k) :
    Own2U (w1.setCell ⟨g, i, none⟩ u') bo bi (.slice (some ⟨g, 0, none⟩) n c) (us.set i u') (rows.set i ys) ∧ w1.grownBy (w1.setCell ⟨g, i, none⟩ u') (some g) ∧ w1.cell? ⟨g, i, none⟩ = some (us.getD i (.slice none 0 0)) ∧ w1.frozen? ⟨g, i, none⟩ = false := by
  subst hn
  obtain ⟨p1, p2⟩ := h.put rfl hi ho' hg hat
  obtain ⟨hl, ho, hr, hd⟩ := h
  have ho1 : w1.ownsRow bo 23 1 (.slice (some ⟨g, 0, none⟩) rows.length c) rows.length us := World.ownsRow.kept ho hg (apart_symm' (types_part (hr i hi) ho (by decide)))
  have h1 := World.ownsRow.cells ho1 (g := g) rfl i (us.getD i (.slice none 0 0)) (by simp [show i < us.length by omega])
  rw [Addr.add_lit, Nat.zero_add] at h1
  exact ⟨p1, p2, h1, World.ownsRow.frozenAt ho1 i⟩
theorem ne_of_lt_blk {g b : Nat} {n c : Nat} {row : Option Nat} (h : g < b) (hr : ∀ k, row = some k → b ≤ k) : (Value.slice (some ⟨g, 0, none⟩) n c).ownBlock = none ∨ (Value.slice (some ⟨g, 0, none⟩) n c).ownBlock ≠ row := by
  right
  intro e
  have := hr g e.symm
  omega
theorem Own2.apart_int' {w : World} {b bo bi g n c : Nat} {ov : Value} {o : List Int} {rows : List (List Int)} (h1 : Own w b ov o) (h2 : Own2 w bo bi (.slice (some ⟨g, 0, none⟩) n c) rows) : ov.ownBlock = none ∨ ov.ownBlock ≠ some g := by
  have := Own2.apart_int h1 h2
  simpa [Value.ownBlock] using this
set_option maxHeartbeats 8000000 in
theorem implLevels (v : Value) (L : List Int) (w : World) (h : Rd w v L) :
    Calls Try.prog 20 #[v] w fun e w' => ∃ v', e = .returned v' ∧ OwnRows w' w.heap.size v' (lvL L) ∧ Below w.heap.size w w' := by
  have HR := Lib.hid h
  obtain ⟨A, c, rfl, -, hm, -⟩ := h
  unfold maxLen at hm
  have HC := Lib.hid (implOrderBy (.slice A L.length c) L w HR.out)
  have HAT := Lib.hid (obL_at L)
  have HLV : Hid (lvL L = lvK L (obL L) (obL L).length) := rfl
  have hm40 := obL_len L
  have HFM := Lib.hid (fun k hk => lvK_I L (obL L) L.length (obL_at L) k hk)
  generalize hol : obL L = o at *
  clear hol
  generalize hml : o.length = m at *
  have HM := Lib.hid hml
  generalize hnl : L.length = n at *
  have HN := Lib.hid hnl
  clear hml hnl
  go_enter Try.func20, Try.ntmps20
  go_wp2_with fail
  refine HC.out.mono ?_
  rintro e w1 ⟨ov, rfl, ho1, hb1⟩
  have HOV := Lib.hid (ho1)
  have HB1 := Lib.hid (hb1)
  obtain ⟨OA, oc, hov, hoc1, hoc2, hoc3⟩ := HOV.out.form
  rw [HM.out] at hov hoc2 hoc3
  subst hov
  have HOG1 := Lib.hid hoc3
  unfold maxLen at hoc1
  clear ho1 hb1 hoc3
  go_wp2
  go_loopw [3, 10] (fun v i wr => ∃ k : Nat, k ≤ m ∧ i = .int .i64 k ∧ Hid (Own2 wr w.heap.size w1.heap.size v (lvK L o k)) ∧ Hid (Own wr w.heap.size (.slice OA m oc) o) ∧ Hid (Below w.heap.size w wr) ∧ Hid (w1.heap.size ≤ wr.heap.size)) (fun _ i _ => m - (intOf i).toNat)
  case atStart => exact ⟨0, by omega, rfl, Lib.hid (Own2.nil_ _ _ _), HOV, HB1, Lib.hid (Nat.le_refl _)⟩
  case round =>
    obtain ⟨wo, rfl⟩ : ∃ x, x = wr := ⟨_, rfl⟩
    obtain ⟨k, hk, rfl, HOWN, HOW, HB, HSZ⟩ := hrel
    obtain ⟨V, cv, rfl, hcv, hlv, hgv⟩ := HOWN.out.form
    unfold maxLen at hcv
    have HI := Lib.hid (HFM.out k hk)
    by_cases hlt : k < m
    · obtain ⟨p, hp, ep⟩ := HAT.out k hlt
      obtain ⟨og, oc', eo, hog1, -, -, hoc, -⟩ := HOW.out.at_ HM.out (by omega)
      injection eo with eo1 eo2 eo3
      subst eo1 eo3
      clear eo2
      have hog2 := (HOW.out.lt og rfl).2
      have zk := hoc k hlt
      rw [ep] at zk
      have HNX := Lib.hid (lvK_succ L o (k := k) (by rw [HM.out]; exact hlt))
      rw [ep] at HNX
      have HNS := Lib.hid (lvStep_eq L (lvK L o k) p)
      clear ep hoc
      obtain ⟨A', c', eL, -, -, hLx⟩ := HR.out.below HB.out
      injection eL with eL1 eL2 eL3
      subst eL1 eL3
      clear eL2
      rw [HN.out] at hLx
      obtain ⟨lg, lo, rfl, hlg, hLc⟩ := hLx (by omega)
      have zp := hLc p hp
      have HLC := Lib.hid hLc
      have hI1 := HI.out.1
      rw [Int.toNat_natCast] at HNS
      clear hLx hLc
      generalize hacc : lvK L o k = acc at *
      generalize hxp : L.getD p 0 = xp at *
      generalize hq : acc.length = q at *
      rcases Nat.eq_zero_or_pos q with hq0 | hq0
      · have HN0 : Hid (lvK L o (k + 1) = acc ++ [[(p : Int)]]) := Lib.hid (by rw [HNX.out, HNS.out, if_neg (by omega)])
        subst hq0
        clear HNS HNX zp
        go_wp2_with fail
        refine wp_region_below (by kernel_rfl) (by kernel_rfl) ?_
        repeat (go_big_quiet_step (first | (with_reducible fail)))
        refine wpQuiet_nil ?_
        intro wq hbq0
        have HBQ := Lib.hid hbq0
        clear hbq0
        have HOQ := Lib.hid (HOWN.out.below HBQ.out)
        have HOWQ := Lib.hid (HOW.out.below HBQ.out)
        have HBB := Lib.hid (HB.out.trans (HBQ.out.mono HB.out.size))
        have HSQ : Hid (w1.heap.size ≤ wq.heap.size) := Lib.hid (Nat.le_trans HSZ.out HBQ.out.size)
        have HU3 := Lib.hid (Own.lit wq wq.heap.size [(p : Int)] (Nat.le_refl _) (by simp))
        have HO4 := Lib.hid (HOQ.out.below (below_alloc1 wq (.cells #[.int .i64 p] 3)))
        have HOW4 := Lib.hid (HOWQ.out.below (below_alloc1 wq (.cells #[.int .i64 p] 3)))
        have HB4 := Lib.hid (HBB.out.alloc HBB.out.size (.cells #[.int .i64 p] 3))
        have HSB : Hid (w.heap.size ≤ wq.heap.size) := Lib.hid HBB.out.size
        go_wp2_with (at_builtin; refine wp_append2V (wq.alloc (.cells #[.int .i64 p] 3)) rfl (.tmp 45) (.tmp 48) rfl w.heap.size w1.heap.size _ acc _ [(p : Int)] wq (by rw [← hq]; rfl) HOQ.out (below_alloc1 _ _) HU3.out HSB.out HSQ.out (by simp [Act.eval]) (by omega) ?_; intro v' w5 hown5 hg5; have HB5 := Lib.hid (HB4.out.grown hg5 (by have := HSB.out; simp; omega) (fun k hk => (HO4.out.lt k hk).1)); have HOW5 := Lib.hid (HOW4.out.kept hg5 (Own2.apart_int HOW4.out HO4.out)); have HS5 : Hid (w1.heap.size ≤ w5.heap.size) := Lib.hid (Nat.le_trans HSQ.out (Nat.le_trans (by simp) hg5.size)); have HOWN5 := Lib.hid hown5; clear hown5 hg5)
        go_roundw
        case rel => exact ⟨k + 1, by omega, by go_num, Lib.hid (by rw [HN0.out]; exact HOWN5.out), HOW5, HB5, HS5⟩
        case measure => simp [intOf]; omega
      · obtain ⟨r, rfl⟩ : ∃ r, q = r + 1 := ⟨q - 1, by omega⟩
        obtain ⟨gv, rfl, hgv1, hgv2⟩ := hgv (by omega)
        obtain ⟨us, hU⟩ := HOWN.out
        have HU := Lib.hid hU
        obtain ⟨hz, hfz⟩ := hU.cell hq (k := r) (by rw [hq]; omega)
        have hrow := hU.2.2.1 r (by rw [hq]; omega)
        obtain ⟨hr1, hr2, a, ha, ea⟩ := HI.out.2 r (by rw [hq]; omega)
        have HUL := Lib.hid hU.1
        have hla : lvLast acc = acc.getD r [] := by unfold lvLast; rw [hq]; rfl
        rw [hla, ea, Int.toNat_natCast, show r + 1 - 1 = r from rfl] at HNS
        have za := HLC.out a ha
        obtain ⟨gb, cb, eb, hgb, hcb, hlb, hbc, -⟩ := hrow.at_ rfl hr1
        have zb := hbc 0 hr1
        rw [ea] at zb
        rw [eb] at hz
        have HUE := Lib.hid eb
        have HROW := Lib.hid hrow
        have hgb2 := (hrow.lt gb (by rw [eb]; rfl)).2
        rw [eb] at HROW
        have hwr : IntKind.i64.wrap (((r + 1 : Nat) : Int) - 1) = (r : Int) := by rw [IntWalk.i64_in _ (by omega)]; omega
        clear hU hrow hla ea hbc eb
        generalize hrw : acc.getD r [] = row at *
        generalize hxa : L.getD a 0 = xa at *
        generalize hrl : row.length = rl at *
        by_cases hx : xa = xp
        · have HN0 : Hid (lvK L o (k + 1) = acc.set r (row ++ [(p : Int)])) := Lib.hid (by rw [HNX.out, HNS.out, if_pos ⟨by omega, hx⟩])
          clear HNS HNX
          go_wp2_with fail
          have c0 := cell_regrown hz
          have c1 := cell_regrown zb
          have c2 := cell_regrown za
          have c3 := cell_regrown zp
          refine wp_region_below (by kernel_rfl) (by kernel_rfl) ?_
          repeat (go_big_quiet_step (first | (with_reducible fail)))
          refine wpQuiet_nil ?_
          intro wq hbq0
          have hzq := (hbq0.cell (p := ⟨gv, r, none⟩) hgv2).trans hz
          have HBQ := Lib.hid hbq0
          clear hbq0 c0 c1 c2 c3 hz zb za zp
          have HUQ : Hid (Own2U wq w.heap.size w1.heap.size (.slice (some ⟨gv, 0, none⟩) (r + 1) cv) us acc) := Lib.hid ⟨HUL.out, ownsRow_below HU.out.2.1 HBQ.out, fun k hk => (HU.out.2.2.1 k hk).below HBQ.out, HU.out.2.2.2⟩
          have HOWQ := Lib.hid (HOW.out.below HBQ.out)
          have HROWQ := Lib.hid (HROW.out.below HBQ.out)
          have HBB := Lib.hid (HB.out.trans (HBQ.out.mono HB.out.size))
          have HSQ : Hid (w1.heap.size ≤ wq.heap.size) := Lib.hid (Nat.le_trans HSZ.out HBQ.out.size)
          have HOG : Hid (og < w1.heap.size) := Lib.hid (by obtain ⟨g, e, -, h⟩ := HOG1.out (by omega); injection e with e; injection e with e; omega)
          go_wp2_with (at_builtin; refine wp_append1at2 wq rfl (.tmp 40) (.tmp 42) rfl w1.heap.size _ row p rfl HROWQ.out (by simp [Act.eval]) (by omega) HSQ.out ?_; intro v' w5 ho5 hg5 hat5; obtain ⟨h5, hf5, hz5, hff5⟩ := own2_put HUQ.out hq (i := r) (by rw [hq]; omega) ho5 (by rw [HUE.out]; exact hg5) (by rw [HUE.out]; exact hat5); have HOW5 := Lib.hid ((HOWQ.out.kept hg5 (ne_of_lt_blk HOG.out (fun k hk => (HROWQ.out.lt k hk).1))).kept hf5 (Own2.apart_int' HOWQ.out ⟨us, HUQ.out⟩)); have HB5 := Lib.hid ((HBB.out.grown hg5 HBB.out.size (fun k hk => Nat.le_trans HB1.out.size (HROWQ.out.lt k hk).1)).grown hf5 (Nat.le_trans HBB.out.size hg5.size) (fun k hk => by injection hk with hk; omega)); have HS5 : Hid (w1.heap.size ≤ w5.heap.size) := Lib.hid (Nat.le_trans HSQ.out hg5.size); have H5 := Lib.hid h5; obtain ⟨V5, c5, hv5, -, -, -⟩ := ho5.form; rw [List.length_append, List.length_singleton, hrl] at hv5; subst hv5; clear ho5 hg5 hat5 h5 hf5)
          go_roundw
          case rel => exact ⟨k + 1, by omega, by go_num, Lib.hid (by rw [HN0.out]; exact ⟨_, H5.out⟩), HOW5, HB5, Lib.hid (by have := HS5.out; simpa using this)⟩
          case measure => simp [intOf]; omega
        · have HN0 : Hid (lvK L o (k + 1) = acc ++ [[(p : Int)]]) := Lib.hid (by rw [HNX.out, HNS.out, if_neg (fun h => hx h.2)])
          clear HNS HNX
          go_wp2_with fail
          have c0 := cell_regrown hz
          have c1 := cell_regrown zb
          have c2 := cell_regrown za
          have c3 := cell_regrown zp
          refine wp_region_below (by kernel_rfl) (by kernel_rfl) ?_
          repeat (go_big_quiet_step (first | (with_reducible fail)))
          refine wpQuiet_nil ?_
          intro wq hbq0
          have HBQ := Lib.hid hbq0
          clear hbq0 c0 c1 c2 c3 hz zb za zp
          have HOQ := Lib.hid (HOWN.out.below HBQ.out)
          have HOWQ := Lib.hid (HOW.out.below HBQ.out)
          have HBB := Lib.hid (HB.out.trans (HBQ.out.mono HB.out.size))
          have HSQ : Hid (w1.heap.size ≤ wq.heap.size) := Lib.hid (Nat.le_trans HSZ.out HBQ.out.size)
          have HU3 := Lib.hid (Own.lit wq wq.heap.size [(p : Int)] (Nat.le_refl _) (by simp))
          have HO4 := Lib.hid (HOQ.out.below (below_alloc1 wq (.cells #[.int .i64 p] 3)))
          have HOW4 := Lib.hid (HOWQ.out.below (below_alloc1 wq (.cells #[.int .i64 p] 3)))
          have HB4 := Lib.hid (HBB.out.alloc HBB.out.size (.cells #[.int .i64 p] 3))
          have HSB : Hid (w.heap.size ≤ wq.heap.size) := Lib.hid HBB.out.size
          go_wp2_with (at_builtin; refine wp_append2V (wq.alloc (.cells #[.int .i64 p] 3)) rfl (.tmp 45) (.tmp 48) rfl w.heap.size w1.heap.size _ acc _ [(p : Int)] wq (by rw [← hq]; rfl) HOQ.out (below_alloc1 _ _) HU3.out HSB.out HSQ.out (by simp [Act.eval]) (by omega) ?_; intro v' w5 hown5 hg5; have HB5 := Lib.hid (HB4.out.grown hg5 (by have := HSB.out; simp; omega) (fun k hk => (HO4.out.lt k hk).1)); have HOW5 := Lib.hid (HOW4.out.kept hg5 (Own2.apart_int HOW4.out HO4.out)); have HS5 : Hid (w1.heap.size ≤ w5.heap.size) := Lib.hid (Nat.le_trans HSQ.out (Nat.le_trans (by simp) hg5.size)); have HOWN5 := Lib.hid hown5; clear hown5 hg5)
          go_roundw
          case rel => exact ⟨k + 1, by omega, by go_num, Lib.hid (by rw [HN0.out]; exact HOWN5.out), HOW5, HB5, HS5⟩
          case measure => simp [intOf]; omega
    · obtain rfl : m = k := by omega
      go_wp2
      go_ret
      exact ⟨_, rfl, by rw [HLV.out]; exact HOWN.out.rows (Nat.le_refl _) HB1.out.size, HB.out⟩
end Go.Proofs.Ytcmpioalnpmpmaa

namespace Go.Proofs.Ytcmpioalnpmpmaa
open Go.RowKit

def rankOf (xs : List Int) (x : Int) : Nat := 1 + (xs.filter fun y => decide (x < y)).length
def rankL (xs : List Int) : List Int := if xs.length ≤ 40 then xs.map fun x => (rankOf xs x : Int) else []
theorem rankL_len (xs : List Int) : (rankL xs).length ≤ 40 := by unfold rankL; split <;> simp; assumption
theorem rank_le (xs : List Int) (k : Nat) (x : Int) : ((xs.take k).filter fun y => decide (x < y)).length ≤ k := by
  refine Nat.le_trans (List.length_filter_le _ _) ?_
  rw [List.length_take]; omega
theorem rank_step {xs : List Int} {k : Nat} {x : Int} (hk : k < xs.length) : ((xs.take (k + 1)).filter fun y => decide (x < y)).length = ((xs.take k).filter fun y => decide (x < y)).length + if x < xs[k]?.getD 0 then 1 else 0 := by
  rw [List.take_succ_eq_append_getElem hk, List.filter_append, List.length_append]
  have e : xs[k]?.getD 0 = xs[k] := by simp [hk]
  rw [e]
  by_cases h : x < xs[k] <;> simp [h]
theorem map_take_succ {xs : List Int} {k : Nat} (f : Int → Int) (hk : k < xs.length) : (xs.take (k + 1)).map f = (xs.take k).map f ++ [f (xs[k]?.getD 0)] := by
  rw [List.take_succ_eq_append_getElem hk, List.map_append]
  have e : xs[k]?.getD 0 = xs[k] := by simp [hk]
  rw [e]; rfl

set_option maxHeartbeats 1000000 in
theorem implRankBy (v : Value) (xs : List Int) (w : World) (h : Rd w v xs) :
    Calls Try.prog 19 #[v] w fun e w' => ∃ v', e = .returned v' ∧ Own w' w.heap.size v' (rankL xs) ∧ Below w.heap.size w w' := by
  have HR := Lib.hid h
  obtain ⟨A, c, rfl, hl1, hm1, hc1⟩ := h
  unfold maxLen at hm1
  generalize hn : xs.length = n at *
  have H1 := Lib.hid hn
  have H3 := Lib.hid hc1
  clear hn hc1
  by_cases h40 : n ≤ 40
  · have h40' : decide ((40 : Int) < (n : Int)) = false := by simp; omega
    go_enter Try.func19, Try.ntmps19
    go_wp2
    go_loopw [3, 14] (fun s i wr => ∃ k : Nat, k ≤ n ∧ i = .int .i64 k ∧ Own wr w.heap.size s ((xs.take k).map fun x => (rankOf xs x : Int)) ∧ Below w.heap.size w wr) (fun _ i _ => n - (intOf i).toNat)
    case atStart => exact ⟨0, by omega, rfl, Own.nil_ _ _, Below.refl _ _⟩
    case round =>
      obtain ⟨k, hk, rfl, hown, hb⟩ := hrel
      by_cases hlt : k < n
      · obtain ⟨b, off, rfl, hbb, hx⟩ := H3.out (by omega)
        have hx' : ∀ j, j < n → wr.cell? ⟨b, off + j, none⟩ = some (.int .i64 (xs.getD j 0)) := fun j hj => (hb.cell (by exact hbb)).trans (hx j hj)
        have hxk := hx' k hlt
        have HX := Lib.hid hx'
        have HO := Lib.hid hown
        have HB := Lib.hid hb
        clear hx hx' hown hb
        go_wp2
        go_loop [6, 20] (fun r i => ∃ j : Nat, j ≤ n ∧ i = .int .i64 j ∧ r = .int .i64 ((1 + ((xs.take j).filter fun y => decide (xs[k]?.getD 0 < y)).length : Nat) : Int)) (fun _ i => n - (intOf i).toNat)
        case atStart => exact ⟨0, by omega, rfl, by simp⟩
        case round =>
          obtain ⟨j, hj, rfl, rfl⟩ := hrel
          have hle := rank_le xs j (xs[k]?.getD 0)
          by_cases hlj : j < n
          · have hxj := HX.out j hlj
            have hst := rank_step (x := xs[k]?.getD 0) (by rw [H1.out]; exact hlj : j < xs.length)
            generalize hg : ((xs.take j).filter fun y => decide (xs[k]?.getD 0 < y)).length = g at *
            have HS := Lib.hid hst
            clear hst hg
            go_wp2
            · have hlt' : xs[k]?.getD 0 < xs[j]?.getD 0 := by assumption
              go_round
              case rel => exact ⟨j + 1, by omega, by go_num, by rw [HS.out, if_pos hlt']; go_num⟩
              case measure => simp [intOf]; omega
            · have hlt' : ¬ xs[k]?.getD 0 < xs[j]?.getD 0 := by omega
              go_round
              case rel => exact ⟨j + 1, by omega, by go_num, by rw [HS.out, if_neg hlt']; go_num⟩
              case measure => simp [intOf]; omega
          · obtain rfl : j = n := by omega
            have hown := HO.out
            have hlen : ((xs.take k).map fun x => (rankOf xs x : Int)).length ≤ 40 := by rw [List.length_map, List.length_take]; omega
            have hbs := HB.out.size
            go_wp2_with (at_builtin; refine wp_append1 _ rfl (.tmp 30) (.tmp 32) rfl w.heap.size _ _ _ rfl hown rfl (by omega) (by omega) ?_; intro v' w1 hown1 hg1)
            have hb1 := below_append HB.out hg1 hown (Nat.le_refl _) hbs
            go_roundw
            case rel =>
              refine ⟨k + 1, by omega, by go_num, ?_, hb1⟩
              rw [map_take_succ _ (by rw [H1.out]; exact hlt)]
              have : List.take j xs = xs := List.take_of_length_le (by rw [H1.out]; exact Nat.le_refl _)
              rw [this] at hown1
              exact hown1
            case measure => simp [intOf]; omega
      · obtain rfl : k = n := by omega
        go_wp2
        go_ret
        refine ⟨_, rfl, ?_, hb⟩
        unfold rankL
        rw [if_pos (by rw [H1.out]; exact h40)]
        rwa [List.take_of_length_le (by rw [H1.out]; exact Nat.le_refl _)] at hown
  · have h40' : decide ((40 : Int) < (n : Int)) = true := by simp; omega
    go_enter Try.func19, Try.ntmps19
    go_wp2
    go_ret
    refine ⟨_, rfl, ?_, Below.refl _ _⟩
    unfold rankL
    rw [if_neg (by rw [H1.out]; exact h40)]
    exact Own.nil_ _ _

end Go.Proofs.Ytcmpioalnpmpmaa

namespace Go.Proofs.Ytcmpioalnpmpmaa
open Go.RowKit

/-- what both programs compute -/
def agreeB (xs ys : List Int) : Bool := decide (xs.length = ys.length ∧ xs.length ≤ 40 ∧ ∀ i, i < xs.length → ∀ k, k < xs.length → ¬ (xs.getD k 0 < xs.getD i 0 ∧ ys.getD i 0 < ys.getD k 0))

theorem agree_no {xs ys : List Int} {n : Nat} (hn : xs.length = n) (k j : Nat) (hk : k < n) (hj : j < n) (hx : xs[j]?.getD 0 < xs[k]?.getD 0) (hy : ys[k]?.getD 0 < ys[j]?.getD 0) : agreeB xs ys = false := by
  refine decide_eq_false fun h => h.2.2 k (by omega) j (by omega) ⟨?_, ?_⟩
  · simpa using hx
  · simpa using hy
theorem agree_step {xs ys : List Int} {k j : Nat} (h : ∀ i, i < j → ¬ (xs.getD i 0 < xs.getD k 0 ∧ ys.getD k 0 < ys.getD i 0)) (hj : ¬ (xs[j]?.getD 0 < xs[k]?.getD 0 ∧ ys[k]?.getD 0 < ys[j]?.getD 0)) :
    ∀ i, i < j + 1 → ¬ (xs.getD i 0 < xs.getD k 0 ∧ ys.getD k 0 < ys.getD i 0) := by
  intro i hi
  by_cases hij : i < j
  · exact h i hij
  · obtain rfl : i = j := by omega
    simpa using hj

set_option maxHeartbeats 400000 in
theorem implDoAgree (v1 : Value) (xs : List Int) (v2 : Value) (ys : List Int) (w : World) (h1 : Rd w v1 xs) (h2 : Rd w v2 ys) :
    Calls Try.prog 22 #[v1, v2] w fun e w' => e = .returned (.bool (agreeB xs ys)) ∧ ∃ q, w' = w.drewN q := by
  obtain ⟨A, c, rfl, hl1, hm1, hc1⟩ := h1
  obtain ⟨B, d, rfl, hl2, hm2, hc2⟩ := h2
  unfold maxLen at hm1 hm2
  generalize hn : xs.length = n at *
  generalize hm : ys.length = m at *
  have H1 := Lib.hid hn
  have H2 := Lib.hid hm
  have H3 := Lib.hid hc1
  have H4 := Lib.hid hc2
  clear hn hm hc1 hc2
  by_cases hnm : n = m
  · subst hnm
    have hne : ((n : Int) != (n : Int)) = false := by simp
    by_cases h40 : n ≤ 40
    · have h40' : decide ((40 : Int) < (n : Int)) = false := by simp; omega
      go_enter Try.func22, Try.ntmps22
      go_wp2
      go_loopw [19] (fun i wr => ∃ k q : Nat, k ≤ n ∧ i = .int .i64 k ∧ wr = w.drewN q ∧ Hid (∀ i, i < k → ∀ j, j < n → ¬ (xs.getD j 0 < xs.getD i 0 ∧ ys.getD i 0 < ys.getD j 0))) (fun i _ => n - (intOf i).toNat)
      case atStart => exact ⟨0, 0, by omega, rfl, rfl, fun j hj => absurd hj (by omega)⟩
      case round =>
        obtain ⟨k, q, hk, rfl, rfl, HP⟩ := hrel
        by_cases hlt : k < n
        · obtain ⟨b, off, rfl, hb, hx⟩ := H3.out (by omega)
          obtain ⟨b', off', rfl, hb', hy⟩ := H4.out (by omega)
          have hxk := hx k hlt
          have hyk := hy k hlt
          have HX := Lib.hid hx
          have HY := Lib.hid hy
          clear hx hy
          go_wp2
          go_loopw [24] (fun i wr => ∃ j q : Nat, j ≤ n ∧ i = .int .i64 j ∧ wr = w.drewN q ∧ Hid (∀ i, i < j → ¬ (xs.getD i 0 < xs.getD k 0 ∧ ys.getD k 0 < ys.getD i 0))) (fun i _ => n - (intOf i).toNat)
          case atStart => exact ⟨0, q, by omega, rfl, rfl, fun j hj => absurd hj (by omega)⟩
          case round =>
            obtain ⟨j, q', hj, rfl, rfl, HQ⟩ := hrel
            by_cases hlj : j < n
            · have hxj := HX.out j hlj
              have hyj := HY.out j hlj
              by_cases hg : xs[j]?.getD 0 < xs[k]?.getD 0
              · have hd : decide (xs[j]?.getD 0 < xs[k]?.getD 0) = true := by simpa using hg
                go_wp2
                go_quiet (fail)
                go_wp2
                · have hy : ys[k]?.getD 0 < ys[j]?.getD 0 := by assumption
                  go_ret
                  exact ⟨ret_bool (agree_no H1.out k j hlt hlj hg hy).symm, q' + nq, by simp⟩
                · have hy : ys[j]?.getD 0 ≤ ys[k]?.getD 0 := by assumption
                  go_roundw
                  case rel =>
                    refine ⟨j + 1, _, by omega, by go_num, rfl, fun i hi => ?_⟩
                    exact agree_step HQ.out (by omega) i hi
                  case measure => simp [intOf]; omega
              · have hd : decide (xs[j]?.getD 0 < xs[k]?.getD 0) = false := by simpa using hg
                go_wp2
                go_quiet (fail)
                go_wp2
                go_roundw
                case rel =>
                  refine ⟨j + 1, _, by omega, by go_num, rfl, fun i hi => ?_⟩
                  exact agree_step HQ.out (by omega) i hi
                case measure => simp [intOf]; omega
            · obtain rfl : j = n := by omega
              go_wp2
              go_roundw
              case rel =>
                refine ⟨k + 1, _, by omega, by go_num, rfl, fun i hi => ?_⟩
                by_cases hik : i < k
                · exact HP.out i hik
                · obtain rfl : i = k := by omega
                  exact HQ.out
              case measure => simp [intOf]; omega
        · obtain rfl : k = n := by omega
          go_wp2
          go_ret
          refine ⟨ret_bool ?_, _, rfl⟩
          have h1 := H1.out
          have h2 := H2.out
          refine (decide_eq_true ⟨by omega, by omega, ?_⟩).symm
          rw [h1]
          exact HP.out
    · have h40' : decide ((40 : Int) < (n : Int)) = true := by simp; omega
      go_enter Try.func22, Try.ntmps22
      go_wp2
      go_ret
      refine ⟨ret_bool (decide_eq_false ?_).symm, 0, rfl⟩
      have := H1.out
      omega
  · have hne : ((n : Int) != (m : Int)) = true := by simp; omega
    go_enter Try.func22, Try.ntmps22
    go_wp2
    go_ret
    refine ⟨ret_bool (decide_eq_false ?_).symm, 0, rfl⟩
    have := H1.out
    have := H2.out
    omega


end Go.Proofs.Ytcmpioalnpmpmaa

namespace Go.Proofs.Ytcmpioalnpmpmaa
set_option maxRecDepth 100000
theorem memN_sum (S : Nat) (g : Nat → Int) (k : Nat) : ((memN S k).map g).sum = sumN (fun b => if S.testBit b = true then g b else 0) k := by
  induction k with
  | zero => rfl
  | succ k ih =>
    rw [memN_succ, List.map_append, List.sum_append, ih, sumN]
    split <;> simp_all
theorem loseN_sum (xs : List Int) (a : Nat) (g : Nat → Int) (k : Nat) : ((loseN xs a k).map g).sum = sumN (fun b => if bitI (xs.getD b 0) a = true then g b else 0) k := by
  induction k with
  | zero => rfl
  | succ k ih =>
    rw [loseN_succ, List.map_append, List.sum_append, ih, sumN]
    split <;> simp_all
section
variable {n : Nat} {xs : List Int}
theorem tour_len (hp : tourP n xs) : xs.length = n := by have := hp.2.1; omega
theorem mem8 (hp : tourP n xs) {a : Nat} (ha : a < n) : memN (winsN xs a) 8 = memN (winsN xs a) n := by
  have hl := tour_len hp
  have h := (tour_wins hp (hl ▸ ha)).2.1
  have h1 := hp.1
  rw [show ((n : Int)).toNat = n from rfl] at h
  exact memN_top (by omega) (Nat.div_eq_of_lt h)
theorem pw_sum (hp : tourP n xs) (P : List Int) {a : Nat} (ha : a < n) : pwAt xs P a = sumN (fun b => if bt xs a b = true then P.getD b 0 else 0) n := by
  unfold pwAt pwT
  rw [List.take_length, mem8 hp ha, memN_sum]
theorem sc_sum (hp : tourP n xs) {a : Nat} (ha : a < n) : scN xs a = sumN (fun b => if bt xs a b = true then 1 else 0) n := by
  unfold scN
  rw [pop_mem (tour_wins hp (tour_len hp ▸ ha)).2.2, mem8 hp ha, ← memN_sum]
  generalize memN (winsN xs a) n = l
  induction l with
  | nil => rfl
  | cons c l ih => rw [List.map_cons, List.sum_cons, ← ih, List.length_cons]; omega
theorem tr_bit (hp : tourP n xs) {a b : Nat} (ha : a < n) (hb : b < n) : (a = b → bt xs a b = false) ∧ (a ≠ b → bt xs a b = !bt xs b a) := by
  have h := tour_bits hp
  rw [tour_len hp] at h
  exact ⟨fun e => by subst e; exact h.2.1 a ha, fun e => h.2.2 a b ha hb e⟩
/-- the number of those who beat b -/
theorem by_sum (hp : tourP n xs) {b : Nat} (hb : b < n) : sumN (fun a => if bt xs a b = true then 1 else 0) n = n - 1 - scN xs b := by
  rw [sc_sum hp hb]
  have e : sumN (fun a => (if bt xs a b = true then 1 else 0) + (if bt xs b a = true then 1 else 0)) n = sumN (fun a => 1 - if a = b then 1 else 0) n := sumN_congr fun a ha => by
    have h1 := tr_bit hp ha hb
    have h2 := tr_bit hp hb ha
    by_cases e : a = b
    · subst e; rw [if_neg (by rw [h1.1 rfl]; decide), if_pos rfl]; rfl
    · rw [if_neg e, h1.2 e]
      cases bt xs b a <;> rfl
  rw [sumN_add, sumN_sub, sumN_const, sumN_one hb (fun k _ hk => if_neg hk), if_pos rfl] at e
  omega
theorem pw_len (xs : List Int) (k : Nat) : (pwL xs k).length = xs.length := pwL_len xs k
theorem pw_next (hp : tourP n xs) (k : Nat) {a : Nat} (ha : a < n) : (pwL xs (k + 1)).getD a 0 = sumN (fun b => if bt xs a b = true then (pwL xs k).getD b 0 else 0) n := by
  rw [show pwL xs (k + 1) = pwStep xs (pwL xs k) from rfl, pwStep_at (by rw [tour_len hp]; exact ha), pw_sum hp _ ha]
theorem pw_one (hp : tourP n xs) : pwL xs 1 = scL xs n := by
  have hl := tour_len hp
  refine List.ext_getElem (by rw [pwL_len, scL_len, hl]) fun i h1 h2 => ?_
  rw [pwL_len] at h1
  have e1 := pw1_at hp h1
  have e2 := scL_at xs (k := n) (b := i) (by omega)
  rw [show (pwL xs 1).getD i 0 = (pwL xs 1)[i] by simp [pwL_len, h1]] at e1
  rw [show (scL xs n).getD i 0 = (scL xs n)[i] by simp [scL_len, hl ▸ h1]] at e2
  rw [e1, e2]
theorem pw_total (hp : tourP n xs) (k : Nat) : (pwL xs (k + 1)).sum = sumN (fun a => (pwL xs k).getD a 0 * (n - 1 - scN xs a)) n := by
  rw [list_sumN, pwL_len, tour_len hp, sumN_congr (fun a ha => pw_next hp k ha), sumN_swap]
  refine sumN_congr fun b hb => ?_
  rw [← by_sum hp hb, ← sumN_mul]
  refine sumN_congr fun a _ => ?_
  split <;> simp
theorem ds_zero (hp : tourP n xs) : (dsL xs).sum = 0 := by
  have hl := tour_len hp
  unfold dsL
  rw [map_sumN, hl]
  have e : ∀ a, a < n → dsAt xs a = sumN (fun b => if bt xs a b = true then scN xs b else 0) n - sumN (fun b => if bt xs b a = true then (n : Int) - 1 - scN xs b else 0) n := fun a ha => by
    unfold dsAt lsT
    rw [List.take_length, loseN_sum, pw_sum hp _ ha, hl]
    congr 1
    · refine sumN_congr fun b hb => ?_
      rw [pw1_at hp (hl.symm ▸ hb)]
    · refine sumN_congr fun b hb => ?_
      rw [bitI_bt (tour_wins hp (hl.symm ▸ hb)).1]
  rw [sumN_congr e, sumN_sub, sumN_swap (fun a b => if bt xs a b = true then scN xs b else 0), sumN_swap (fun a b => if bt xs b a = true then (n : Int) - 1 - scN xs b else 0)]
  have e1 : ∀ b, b < n → sumN (fun a => if bt xs a b = true then scN xs b else 0) n = scN xs b * (n - 1 - scN xs b) := fun b hb => by
    rw [← by_sum hp hb, ← sumN_mul]
    refine sumN_congr fun a _ => ?_
    split <;> simp
  have e2 : ∀ b, b < n → sumN (fun a => if bt xs b a = true then (n : Int) - 1 - scN xs b else 0) n = scN xs b * (n - 1 - scN xs b) := fun b hb => by
    rw [Int.mul_comm, show scN xs b = sumN (fun c => if bt xs b c = true then 1 else 0) n from sc_sum hp hb, ← sumN_mul]
    refine sumN_congr fun a _ => ?_
    split <;> simp
  rw [sumN_congr e1, sumN_congr e2]
  omega
end
/-! bounds -/
section
variable {n : Nat} {xs : List Int}
theorem sc_bd (hp : tourP n xs) {b : Nat} (hb : b < n) : 0 ≤ scN xs b ∧ scN xs b ≤ (n : Int) - 1 := by
  have h := by_sum hp hb
  have h1 : 0 ≤ sumN (fun a => if bt xs a b = true then (1 : Int) else 0) n := sumN_nonneg fun k _ => by split <;> omega
  have := scN_bd xs b
  omega
theorem ds_bd (hp : tourP n xs) : ∀ x ∈ dsL xs, -((200 : Nat) : Int) ≤ x ∧ x ≤ ((200 : Nat) : Int) := by
  intro x hx
  unfold dsL at hx
  obtain ⟨a, ha, rfl⟩ := List.mem_map.1 hx
  have h8 : xs.length ≤ 8 := by have := hp.1; have := tour_len hp; omega
  have h1 := pwAt_bd (pwL_bd xs 1) (by decide) (xs := xs) a
  have h2 := lsT_bd h8 a (loseN xs a xs.length).length
  unfold dsAt
  omega
theorem pw_bd (xs : List Int) {k : Nat} (hk : k ≤ 9) (a : Nat) : 0 ≤ (pwL xs k).getD a 0 ∧ (pwL xs k).getD a 0 ≤ 134217728 := by
  have h := pwL_bd xs k a
  have h2 : (8 : Int) ^ k ≤ 134217728 := by
    have : (8 : Nat) ^ k ≤ 8 ^ 9 := Nat.pow_le_pow_right (by decide) hk
    have h3 : ((8 ^ k : Nat) : Int) ≤ ((8 ^ 9 : Nat) : Int) := by exact_mod_cast this
    simpa using h3
  omega
theorem pw_mul {p d : Int} (h1 : 0 ≤ p) (h2 : p ≤ 134217728) (h3 : 0 ≤ d) (h4 : d ≤ 6) : 0 ≤ p * d ∧ p * d ≤ 805306368 := by
  have h5 := Int.mul_nonneg h1 h3
  have h6 : p * d ≤ 134217728 * 6 := Int.mul_le_mul h2 h4 h3 (by omega)
  omega
theorem pw_mem (xs : List Int) {k : Nat} (hk : k ≤ 9) : ∀ x ∈ pwL xs k, -((134217728 : Nat) : Int) ≤ x ∧ x ≤ ((134217728 : Nat) : Int) := by
  intro x hx
  obtain ⟨i, hi, rfl⟩ := List.getElem_of_mem hx
  have := pw_bd xs hk i
  rw [show (pwL xs k).getD i 0 = (pwL xs k)[i] by simp [hi]] at this
  omega
end
/-! orders, ranks, levels -/
theorem pairs_at {K : Int → Int} {l : List Int} (h : l.Pairwise (LtK K)) {i : Nat} (hi : i + 1 < l.length) : LtK K (l.getD i 0) (l.getD (i + 1) 0) := by
  rw [show l.getD i 0 = l[i] by simp [show i < l.length by omega], show l.getD (i + 1) 0 = l[i + 1] by simp [hi]]
  exact List.pairwise_iff_getElem.1 h i (i + 1) (by omega) hi (by omega)
theorem filt_mono {p q : Int → Bool} (l : List Int) (h : ∀ x ∈ l, p x = true → q x = true) : (l.filter p).length ≤ (l.filter q).length := by
  induction l with
  | nil => simp
  | cons x l ih =>
    have ih := ih fun y hy => h y (by simp [hy])
    have hx := h x (by simp)
    rw [List.filter_cons, List.filter_cons]
    by_cases h1 : p x = true
    · rw [if_pos h1, if_pos (hx h1)]; simp; omega
    · rw [if_neg h1]
      split
      · simp; omega
      · exact ih
theorem rank_mono (L : List Int) {x y : Int} (h : x ≤ y) : rankOf L y ≤ rankOf L x := by
  unfold rankOf
  have := filt_mono (p := fun z => decide (y < z)) (q := fun z => decide (x < z)) L (fun z _ hz => by simp at *; omega)
  omega
theorem rankL_at {L : List Int} (h : L.length ≤ 40) {a : Nat} (ha : a < L.length) : (rankL L).getD a 0 = rankOf L (L.getD a 0) := by
  unfold rankL
  rw [if_pos h]
  simp [ha]
theorem rankL_len' {L : List Int} (h : L.length ≤ 40) : (rankL L).length = L.length := by unfold rankL; rw [if_pos h]; simp
theorem obL_eq {L : List Int} (h : L.length ≤ 40) : obL L = ordK L L.length := by unfold obL; rw [if_neg (by omega)]
theorem ord_pair {L : List Int} {n : Nat} (hn : L.length = n) (h : n ≤ 40) {i : Nat} (hi : i + 1 < n) : ∃ a b : Nat, a < n ∧ b < n ∧ (ordK L n).getD i 0 = a ∧ (ordK L n).getD (i + 1) 0 = b ∧ L.getD b 0 ≤ L.getD a 0 ∧ (L.getD b 0 = L.getD a 0 → a < b) ∧ (rankL L).getD a 0 ≤ (rankL L).getD b 0 := by
  obtain ⟨a, ha, ea⟩ := ordK_at (L := L) (i := n) (k := i) (by omega)
  obtain ⟨b, hb, eb⟩ := ordK_at (L := L) (i := n) (k := i + 1) hi
  have hk := pairs_at (ordK_sorted L n).1 (i := i) (by rw [ordK_len]; exact hi)
  rw [ea, eb] at hk
  unfold LtK kOf at hk
  simp only [Int.toNat_natCast] at hk
  have hle : L.getD b 0 ≤ L.getD a 0 := by omega
  refine ⟨a, b, ha, hb, ea, eb, hle, fun e => by omega, ?_⟩
  rw [rankL_at (by omega) (by omega), rankL_at (by omega) (by omega)]
  have := rank_mono L hle
  omega
theorem agree_self (L : List Int) (h : L.length ≤ 40) : agreeB L L = true := by
  unfold agreeB
  rw [decide_eq_true_eq]
  exact ⟨rfl, h, fun i _ k _ => by omega⟩
def negL (L : List Int) : List Int := L.map fun x => -x
theorem negL_len (L : List Int) : (negL L).length = L.length := by simp [negL]
theorem negL_at (L : List Int) (a : Nat) : (negL L).getD a 0 = - L.getD a 0 := by
  unfold negL
  by_cases h : a < L.length
  · simp [h]
  · simp [show L.length ≤ a by omega]
theorem agree_rank (L : List Int) (h : L.length ≤ 40) : agreeB (negL L) (rankL L) = true := by
  unfold agreeB
  rw [decide_eq_true_eq, negL_len, rankL_len' h]
  refine ⟨rfl, h, fun i hi k hk ⟨h1, h2⟩ => ?_⟩
  rw [negL_at, negL_at] at h1
  rw [rankL_at h hi, rankL_at h hk] at h2
  have := rank_mono L (x := L.getD i 0) (y := L.getD k 0) (by omega)
  omega
theorem agree_neg {L : List Int} (h : L.length ≤ 40) : agreeB L (negL L) = true ↔ ∀ i, i < L.length → ∀ k, k < L.length → L.getD i 0 = L.getD k 0 := by
  unfold agreeB
  rw [decide_eq_true_eq, negL_len]
  constructor
  · rintro ⟨-, -, h2⟩ i hi k hk
    have h3 := h2 i hi k hk
    have h4 := h2 k hk i hi
    rw [negL_at, negL_at] at h3 h4
    omega
  · intro h2
    refine ⟨rfl, h, fun i hi k hk ⟨h3, _⟩ => ?_⟩
    have := h2 i hi k hk
    omega
/-! levels -/
def LvE (L : List Int) (acc : List (List Int)) : Prop := ∀ r ∈ acc, 0 < r.length ∧ ∀ x ∈ r, L.getD x.toNat 0 = L.getD (r.getD 0 0).toNat 0
theorem set_flat (acc : List (List Int)) (i : Int) (h : 0 < acc.length) : (acc.set (acc.length - 1) (lvLast acc ++ [i])).flatten = acc.flatten ++ [i] := by
  obtain ⟨l, r, rfl⟩ : ∃ l r, acc = l ++ [r] := ⟨acc.dropLast, acc.getLast (by intro e; simp [e] at h), (List.dropLast_concat_getLast _).symm⟩
  have e : lvLast (l ++ [r]) = r := by unfold lvLast; simp
  rw [e]
  simp
theorem lv_flat (L : List Int) (acc : List (List Int)) (i : Int) : (lvStep L acc i).flatten = acc.flatten ++ [i] := by
  rw [lvStep_eq]
  split
  · next h => exact set_flat acc i h.1
  · simp
theorem lvK_flat (L o : List Int) : ∀ k, k ≤ o.length → (lvK L o k).flatten = o.take k := by
  intro k
  induction k with
  | zero => intro _; simp [lvK]
  | succ k ih =>
    intro hk
    rw [lvK_succ L o (by omega), lv_flat, ih (by omega), List.take_succ_eq_append_getElem (by omega)]
    simp [show k < o.length by omega]
theorem lvL_flat (L : List Int) : (lvL L).flatten = obL L := by
  unfold lvL
  rw [lvK_flat _ _ _ (Nat.le_refl _), List.take_length]
theorem take_flat (rows : List (List Int)) {j : Nat} (h : j < rows.length) : (rows.take (j + 1)).flatten = (rows.take j).flatten ++ rows.getD j [] := by
  rw [List.take_succ_eq_append_getElem h, List.flatten_append, show rows.getD j [] = rows[j] by simp [h]]
  simp
theorem take_flat_le (rows : List (List Int)) (j : Nat) : ((rows.take j).flatten).length ≤ rows.flatten.length := by
  have : rows.flatten = (rows.take j).flatten ++ (rows.drop j).flatten := by rw [← List.flatten_append, List.take_append_drop]
  rw [this, List.length_append]
  omega
theorem negL_take (L : List Int) {j : Nat} (h : j < L.length) : (negL L).take (j + 1) = (negL L).take j ++ [-L.getD j 0] := by
  rw [List.take_succ_eq_append_getElem (by rw [negL_len]; exact h)]
  congr 2
  rw [← negL_at, show (negL L).getD j 0 = (negL L)[j]'(by rw [negL_len]; exact h) by simp [negL_len, h]]
theorem lvE_step (L : List Int) {acc : List (List Int)} (h : LvE L acc) (i : Int) : LvE L (lvStep L acc i) := by
  rw [lvStep_eq]
  split
  · next hc =>
    intro r hr
    rcases List.mem_or_eq_of_mem_set hr with hr | rfl
    · exact h r hr
    · have hm : lvLast acc ∈ acc := by
        unfold lvLast
        rw [show acc.getD (acc.length - 1) [] = acc[acc.length - 1]'(by omega) by simp [show acc.length - 1 < acc.length by omega]]
        exact List.getElem_mem _
      have hl := h _ hm
      have e0 : (lvLast acc ++ [i]).getD 0 0 = (lvLast acc).getD 0 0 := by
        rw [List.getD_eq_getElem?_getD, List.getElem?_append_left hl.1, ← List.getD_eq_getElem?_getD]
      refine ⟨by simp, fun x hx => ?_⟩
      rw [e0]
      rw [List.mem_append, List.mem_singleton] at hx
      rcases hx with hx | rfl
      · exact hl.2 x hx
      · exact hc.2.symm
  · intro r hr
    rw [List.mem_append, List.mem_singleton] at hr
    rcases hr with hr | rfl
    · exact h r hr
    · exact ⟨by simp, fun x hx => by rw [List.mem_singleton] at hx; subst hx; rfl⟩
theorem lvK_E (L o : List Int) : ∀ k, k ≤ o.length → LvE L (lvK L o k) := by
  intro k
  induction k with
  | zero => intro _ r hr; simp [lvK] at hr
  | succ k ih => intro hk; rw [lvK_succ L o (by omega)]; exact lvE_step L (ih (by omega)) _
theorem lvL_rows (L : List Int) {j : Nat} (h : j < (lvL L).length) : 1 ≤ ((lvL L).getD j []).length ∧ ((lvL L).getD j []).length ≤ 40 := by
  have h1 : (lvL L).getD j [] ∈ lvL L := by rw [show (lvL L).getD j [] = (lvL L)[j] by simp [h]]; exact List.getElem_mem _
  exact ⟨(lvK_E L (obL L) _ (Nat.le_refl _) _ h1).1, (lvL_bd L).2 _ h1⟩
theorem lv_one (L o : List Int) (he : ∀ x ∈ o, ∀ y ∈ o, L.getD x.toNat 0 = L.getD y.toNat 0) : ∀ k, k < o.length → (lvK L o (k + 1)).length = 1 := by
  intro k
  induction k with
  | zero =>
    intro hk
    rw [lvK_succ L o hk]
    simp [lvK, lvStep]
  | succ k ih =>
    intro hk
    have ih := ih (by omega)
    rw [lvK_succ L o hk, lvStep_eq]
    obtain ⟨r, hr⟩ : ∃ r, lvK L o (k + 1) = [r] := List.length_eq_one_iff.1 ih
    have hE := lvK_E L o (k + 1) (by omega)
    have hf := lvK_flat L o (k + 1) (by omega)
    rw [hr] at hE hf ⊢
    have h0 := (hE r (by simp)).1
    have hm : (lvLast [r]).getD 0 0 ∈ o := by
      have : lvLast [r] = r := rfl
      rw [this, show r.getD 0 0 = r[0] by simp [h0]]
      have : r[0] ∈ o.take (k + 1) := by rw [← hf]; simp
      exact List.mem_of_mem_take this
    have hk' : o.getD (k + 1) 0 ∈ o := by rw [show o.getD (k + 1) 0 = o[k + 1] by simp [hk]]; exact List.getElem_mem _
    rw [if_pos ⟨by simp, he _ hm _ hk'⟩]
    simp
theorem levels_one {L : List Int} (h : L.length ≤ 40) (h1 : 1 ≤ L.length) : agreeB L (negL L) = decide ((lvL L).length = 1) := by
  have hob := obL_eq h
  have hlen : (obL L).length = L.length := by rw [hob, ordK_len]
  have hperm : (obL L).Perm (idsL L.length) := by rw [hob]; exact (ordK_sorted L _).2
  have hm1 : ∀ a, a < L.length → ((a : Nat) : Int) ∈ obL L := fun a ha => hperm.mem_iff.2 (by unfold idsL; exact List.mem_map.2 ⟨a, by simpa using ha, rfl⟩)
  have hm2 : ∀ x ∈ obL L, ∃ a : Nat, a < L.length ∧ x = a := fun x hx => idsL_mem (hperm.mem_iff.1 hx)
  have key : agreeB L (negL L) = true ↔ (lvL L).length = 1 := by
    rw [agree_neg h]
    constructor
    · intro he
      unfold lvL
      obtain ⟨m, hm⟩ : ∃ m, (obL L).length = m + 1 := ⟨(obL L).length - 1, by omega⟩
      rw [hm]
      refine lv_one L (obL L) (fun x hx y hy => ?_) m (by omega)
      obtain ⟨a, ha, rfl⟩ := hm2 x hx
      obtain ⟨b, hb, rfl⟩ := hm2 y hy
      exact he a ha b hb
    · intro h1' i hi k hk
      obtain ⟨r, hr⟩ := List.length_eq_one_iff.1 h1'
      have hE := lvK_E L (obL L) _ (Nat.le_refl _)
      have hf := lvL_flat L
      change LvE L (lvL L) at hE
      rw [hr] at hE hf
      simp only [List.flatten_cons, List.flatten_nil, List.append_nil] at hf
      have hx := fun x hx => (hE r (by simp)).2 x hx
      have e1 := hx _ (by rw [hf]; exact hm1 i hi)
      have e2 := hx _ (by rw [hf]; exact hm1 k hk)
      simp only [Int.toNat_natCast] at e1 e2
      rw [e1, e2]
  rcases hb : agreeB L (negL L) with _ | _
  · symm; rw [decide_eq_false_iff_not, ← key, hb]; simp
  · symm; rw [decide_eq_true_eq, ← key, hb]
end Go.Proofs.Ytcmpioalnpmpmaa

namespace Go.Proofs.Ytcmpioalnpmpmaa
open Go.RowKit Go.Sort
set_option maxRecDepth 100000
set_option maxHeartbeats 1000000 in
theorem scores_any (n : Nat) (sl : Value) (xs : List Int) (w : World) (h : Rd w sl xs) (hp : tourP n xs) :
    Calls Try.prog 12 #[.agg #[.int .i64 n, sl]] w fun e w' => ∃ A c, e = .returned (.slice A n c) ∧ Own w' w.heap.size (.slice A n c) (scL xs n) ∧ Below w.heap.size w w' := by
  have HR := Lib.hid h
  have HP := Lib.hid hp
  have hs := hp.1
  have hln : xs.length = n := by have := hp.2.1; omega
  have HLN := Lib.hid hln
  have q0 : tourB n xs = true := tourB_true.2 hp
  obtain ⟨A, c, rfl, -, hcm, -⟩ := h
  unfold maxLen at hcm
  rw [hln] at HR ⊢
  clear hln hp
  go_enter Try.func12, Try.ntmps12
  go_wp2_with fail
  have b0 := below_alloc1 w (.cells #[.int .i64 n, .slice A n c] 25)
  have x0 := TBox.new w n (.slice A n c) 25
  generalize w.alloc (.cells #[.int .i64 n, .slice A n c] 25) = w0 at *
  have HX0 := Lib.hid x0
  have HB0 := Lib.hid b0
  clear x0 b0
  have y0_0 := HX0.out.1
  have y1_0 := HX0.out.2
  go_wp2_with fail
  refine (implTourOk n _ xs _ (HR.out.below HB0.out)).mono ?_
  rintro e w1 ⟨rfl, hb⟩
  have HX1 := Lib.hid (HX0.out.below hb)
  have HB1 := Lib.hid (Below.then HB0.out hb)
  clear hb HX0 HB0 y0_0 y1_0
  have y0_1 := HX1.out.1
  have y1_1 := HX1.out.2
  rw [q0]
  go_wp2
  go_loopw [3, 10] (fun v i wr => ∃ (a : Nat), a ≤ n ∧ i = .int .i64 a ∧ Hid (Own wr (w.heap.size + 1) v (scL xs a)) ∧ Hid (TBox wr w.heap.size n (.slice A n c)) ∧ Hid (Below w.heap.size w wr)) (fun _ i _ => n - (intOf i).toNat)
  case atStart => exact ⟨0, by omega, rfl, Lib.hid (by simpa [scL] using Own.nil_ _ _), HX1, HB1⟩
  case round =>
    obtain ⟨a, ha, rfl, HOa, HX, HBa⟩ := hrel
    clear HX1 HB1 y0_1 y1_1
    by_cases hlt : a < n
    · have y0 := HX.out.1
      have y1 := HX.out.2
      have HMS := Lib.hid (scL_succ xs a)
      have hSC : Hid (((popN 8 (winsN xs a) : Nat) : Int) = scN xs a) := rfl
      have hsc := scN_bd xs a
      go_wp2_with fail
      refine (score_any n (.slice A n c) xs a _ (HR.out.below HBa.out) HP.out (by have := HLN.out; omega)).mono ?_
      rintro e w5 ⟨rfl, hb5⟩
      rw [hSC.out]
      clear hSC
      have HX5 := Lib.hid (HX.out.below hb5)
      have HO5 := Lib.hid (HOa.out.below hb5)
      have HB5 := Lib.hid (Below.then HBa.out hb5)
      clear hb5 HX HOa HBa y0 y1
      have hlen := scL_len xs a
      have hsz := HB5.out.size
      have ho := HO5.out
      generalize scN xs a = y at *
      generalize scL xs a = X at *
      have hgt := World.block_lt_of_cell? _ _ HX5.out.1
      simp only at hgt
      go_wp2_with (at_builtin; refine wp_append1 _ rfl (.tmp 13) (.tmp 17) rfl (w.heap.size + 1) _ _ _ rfl ho (by simp [Act.eval]) (by omega) (by exact hgt) ?_; intro v' w7 hown1 hg1; have HO7 := Lib.hid hown1; have HB7 := Lib.hid (below_append HB5.out hg1 ho (by omega) hgt); have HX7 := Lib.hid (HX5.out.kept hg1 (nb_ne (own_ne (fun k hk => (ho.lt k hk).1) (by omega)))); clear hown1 hg1)
      go_roundw
      case rel => exact ⟨a + 1, by omega, by go_num, by rw [HMS.out]; exact HO7, HX7, HB7⟩
      case measure => simp [intOf]; omega
    · obtain rfl : n = a := by omega
      go_wp2
      obtain ⟨Y, cy, rfl, -, -, -⟩ := HOa.out.form
      rw [scL_len] at *
      go_ret
      exact ⟨Y, cy, rfl, HOa.out.mono (by omega), HBa.out⟩
end Go.Proofs.Ytcmpioalnpmpmaa

namespace Go.Proofs.Ytcmpioalnpmpmaa
open Go.RowKit Go.Sort
set_option maxRecDepth 100000
theorem same_true (xs ys : List Int) (h : xs.length = ys.length) (HP : ∀ j, j < xs.length → xs.getD j 0 = ys.getD j 0) : decide (xs = ys) = true := by
  rw [decide_eq_true]
  apply List.ext_getElem h
  intro i h1 h2
  have := HP i h1
  simpa [h1, h2] using this
set_option maxHeartbeats 400000 in
theorem same_any (v1 v2 : Value) (xs ys : List Int) (w : World) (h1 : Rd w v1 xs) (h2 : Rd w v2 ys) :
    Calls Try.prog 13 #[v1, v2] w fun e w' => e = .returned (.bool (decide (xs = ys))) ∧ w = w' := by
  obtain ⟨A, c, rfl, hl1, hm1, hc1⟩ := h1
  obtain ⟨B, d, rfl, hl2, hm2, hc2⟩ := h2
  unfold maxLen at hm1 hm2
  generalize hn : xs.length = n at *
  generalize hm : ys.length = m at *
  have H1 := Lib.hid hn
  have H2 := Lib.hid hm
  have H3 := Lib.hid hc1
  have H4 := Lib.hid hc2
  clear hn hm hc1 hc2
  by_cases hnm : n = m
  · subst hnm
    have hne : ((n : Int) != (n : Int)) = false := by simp
    go_enter Try.func13, Try.ntmps13
    go_wp2
    go_loop [14] (fun i => ∃ k : Nat, k ≤ n ∧ i = .int .i64 k ∧ Hid (∀ j, j < k → xs.getD j 0 = ys.getD j 0)) (fun i => n - (intOf i).toNat)
    case atStart => exact ⟨0, by omega, rfl, fun j hj => absurd hj (by omega)⟩
    case round =>
      obtain ⟨k, hk, rfl, HP⟩ := hrel
      by_cases hlt : k < n
      · obtain ⟨b, off, rfl, hb, hx⟩ := H3.out (by omega)
        obtain ⟨b', off', rfl, hb', hy⟩ := H4.out (by omega)
        have hxk := hx k hlt
        have hyk := hy k hlt
        clear hx hy
        generalize hX : xs.getD k 0 = X at *
        generalize hY : ys.getD k 0 = Y at *
        have HXE := Lib.hid hX
        have HYE := Lib.hid hY
        clear hX hY
        by_cases hXY : X = Y
        · have hne2 : (X != Y) = false := by simp [hXY]
          have HP2 : Hid (∀ j, j < k + 1 → xs.getD j 0 = ys.getD j 0) := Lib.hid fun j hj => by
            by_cases hjk : j < k
            · exact HP.out j hjk
            · obtain rfl : j = k := by omega
              rw [HXE.out, HYE.out, hXY]
          clear hXY
          go_wp2
          go_round
          case rel => exact ⟨k + 1, by omega, by go_num, HP2⟩
          case measure => simp [intOf]; omega
        · have hne2 : (X != Y) = true := by simp [hXY]
          go_wp2
          go_ret
          refine ⟨ret_bool ?_, rfl⟩
          refine (decide_eq_false ?_).symm
          rintro rfl
          exact hXY (HXE.out.symm.trans HYE.out)
      · have hge : ¬ ((k : Int) < (n : Int)) := by omega
        go_wp2
        go_ret
        exact ⟨ret_bool (same_true xs ys (by rw [H1.out, H2.out]) fun j hj => HP.out j (by have := H1.out; omega)).symm, rfl⟩
  · have hne : ((n : Int) != (m : Int)) = true := by simp; omega
    go_enter Try.func13, Try.ntmps13
    go_wp2
    go_ret
    refine ⟨ret_bool (decide_eq_false ?_).symm, rfl⟩
    rintro rfl
    exact hnm (H1.out.symm.trans H2.out)
theorem same_yes (v1 v2 : Value) (xs : List Int) (w : World) (h1 : Rd w v1 xs) (h2 : Rd w v2 xs) :
    Calls Try.prog 13 #[v1, v2] w fun e w' => e = .returned (.bool true) ∧ w = w' := by
  have := same_any v1 v2 xs xs w h1 h2
  rwa [decide_eq_true (rfl : xs = xs)] at this
end Go.Proofs.Ytcmpioalnpmpmaa

namespace Go.Proofs.Ytcmpioalnpmpmaa
open Go.RowKit Go.Sort
set_option maxHeartbeats 1000000 in
theorem implSecond (s : Int) (sl : Value) (xs : List Int) (w : World) (h : Rd w sl xs) :
    Calls Try.prog 14 #[.agg #[.int .i64 s, sl]] w fun e w' => ∃ v', e = .returned v' ∧ Own w' w.heap.size v' (pwR s xs 2) ∧ Below w.heap.size w w' := by
  have HR := Lib.hid h
  obtain ⟨A, c, rfl, -, -, -⟩ := h
  go_enter Try.func14, Try.ntmps14
  go_wp2_with fail
  have b0 := below_alloc1 w (.cells #[.int .i64 s, .slice A xs.length c] 25)
  have x0 := TBox.new w s (.slice A xs.length c) 25
  generalize w.alloc (.cells #[.int .i64 s, .slice A xs.length c] 25) = w0 at *
  have HX0 := Lib.hid x0
  have HB0 := Lib.hid b0
  clear x0 b0
  have y0_0 := HX0.out.1
  have y1_0 := HX0.out.2
  go_wp2_with fail
  refine (implPower s _ xs 2 _ (HR.out.below HB0.out)).mono ?_
  rintro e w2 ⟨v, rfl, ho, hb⟩
  have HB2 := Lib.hid (Below.then HB0.out hb)
  have HO := Lib.hid (ho.mono HB0.out.size)
  clear hb ho
  go_wp2
  go_ret
  exact ⟨_, rfl, HO.out, HB2.out⟩
end Go.Proofs.Ytcmpioalnpmpmaa

namespace Go.Proofs.Ytcmpioalnpmpmaa
open Go.RowKit Go.Sort
set_option maxRecDepth 100000
section
variable {n : Nat} {xs : List Int} {sl : Value} {w : World}
theorem rd_at {A : Option Addr} {c n : Nat} {L : List Int} (h : Rd w (.slice A n c) L) (hl : L.length = n) (h1 : 0 < n) : ∃ g off, A = some ⟨g, off, none⟩ := by
  obtain ⟨A', c', e, -, -, hx⟩ := h
  injection e with e1 _ _
  subst e1
  obtain ⟨g, off, rfl, -, -⟩ := hx (by omega)
  exact ⟨g, off, rfl⟩
theorem rd_cell {g off c n : Nat} {L : List Int} (h : Rd w (.slice (some ⟨g, off, none⟩) n c) L) (hl : L.length = n) {i : Nat} (hi : i < n) : w.cell? ⟨g, off + i, none⟩ = some (.int .i64 (L.getD i 0)) := by
  obtain ⟨A', c', e, -, -, hx⟩ := h
  injection e with e1 _ _
  subst e1
  obtain ⟨g', off', e', -, hc⟩ := hx (by omega)
  injection e' with e'
  injection e' with e1 e2 _
  subst e1 e2
  exact hc i (by omega)
theorem rd_len {A : Option Addr} {c n : Nat} {L : List Int} (h : Rd w (.slice A n c) L) : L.length = n ∧ n ≤ c ∧ c ≤ maxLen := by
  obtain ⟨A', c', e, h1, h2, -⟩ := h
  injection e with _ e2 e3
  subst e3
  omega
theorem rd_rows {A : Option Addr} {c m : Nat} {rows : List (List Int)} (h : RdRows w (.slice A m c) rows) {j : Nat} (hj : j < m) : ∃ g u, A = some ⟨g, 0, none⟩ ∧ w.cell? ⟨g, j, none⟩ = some u ∧ Rd w u (rows.getD j []) := by
  obtain ⟨A', c', e, h1, h2, hx⟩ := h
  injection e with e1 e2 e3
  subst e1
  obtain ⟨g, rfl, -, hc⟩ := hx (by omega)
  obtain ⟨u, h3, h4⟩ := hc j (by omega)
  exact ⟨g, u, rfl, h3, h4⟩
theorem rd_cap {A : Option Addr} {c n : Nat} {L : List Int} (h : Rd w (.slice A n c) L) : c ≤ maxLen := by
  obtain ⟨A', c', e, -, hm, -⟩ := h
  injection e with _ _ e3
  subst e3
  exact hm
theorem in_tour {n : Nat} {c : Nat} (hc : c < n) : inB (c : Int) 0 ((n : Int) - 1) = true := inB_true.2 ⟨by omega, by omega⟩
theorem beat_bt (hp : tourP n xs) {a b : Nat} (ha : a < n) (hb : b < n) : beatB n xs a b = bt xs a b := by
  unfold beatB
  rw [tourB_true.2 hp, in_tour ha, in_tour hb, Int.toNat_natCast, Int.toNat_natCast, bitI_bt (tour_wins hp (tour_len hp ▸ ha)).1]
  rfl
theorem cPow (hp : tourP n xs) (h : Rd w sl xs) (k : Nat) (K : Int) (hK : K = k) (hk : k ≤ 12) : Calls Try.prog 11 #[.agg #[.int .i64 n, sl], .int .i64 K] w fun e w' => ∃ A c, e = .returned (.slice A n c) ∧ Own w' w.heap.size (.slice A n c) (pwL xs k) ∧ Below w.heap.size w w' :=
  (implPower n sl xs K w h).mono fun e w' ⟨v, h1, h2, h3⟩ => by
    subst hK
    unfold pwR at h2
    rw [tourB_true.2 hp, show inB (k : Int) 0 12 = true from inB_true.2 ⟨by omega, by omega⟩, Bool.and_self, if_pos rfl, Int.toNat_natCast] at h2
    obtain ⟨A, c, rfl, -, -, -⟩ := h2.form
    rw [pwL_len, tour_len hp] at h1 h2
    exact ⟨A, c, h1, h2, h3⟩
theorem cSec (hp : tourP n xs) (h : Rd w sl xs) : Calls Try.prog 14 #[.agg #[.int .i64 n, sl]] w fun e w' => ∃ A c, e = .returned (.slice A n c) ∧ Own w' w.heap.size (.slice A n c) (pwL xs 2) ∧ Below w.heap.size w w' :=
  (implSecond n sl xs w h).mono fun e w' ⟨v, h1, h2, h3⟩ => by
    unfold pwR at h2
    rw [tourB_true.2 hp, show inB (2 : Int) 0 12 = true from inB_true.2 ⟨by omega, by omega⟩, Bool.and_self, if_pos rfl, show (2 : Int).toNat = 2 from rfl] at h2
    obtain ⟨A, c, rfl, -, -, -⟩ := h2.form
    rw [pwL_len, tour_len hp] at h1 h2
    exact ⟨A, c, h1, h2, h3⟩
theorem cDef (hp : tourP n xs) (h : Rd w sl xs) : Calls Try.prog 16 #[.agg #[.int .i64 n, sl]] w fun e w' => ∃ A c, e = .returned (.slice A n c) ∧ Own w' w.heap.size (.slice A n c) (dsL xs) ∧ Below w.heap.size w w' :=
  (implDefeat n sl xs w h).mono fun e w' ⟨v, h1, h2, h3⟩ => by
    unfold dsR at h2
    rw [if_pos (tourB_true.2 hp)] at h2
    obtain ⟨A, c, rfl, -, -, -⟩ := h2.form
    rw [show (dsL xs).length = n by unfold dsL; simp [tour_len hp]] at h1 h2
    exact ⟨A, c, h1, h2, h3⟩
theorem cPOrd (hp : tourP n xs) (h : Rd w sl xs) (k : Nat) (hk : k ≤ 12) : Calls Try.prog 21 #[.agg #[.int .i64 n, sl], .int .i64 k] w fun e w' => ∃ A c, e = .returned (.slice A n c) ∧ Own w' w.heap.size (.slice A n c) (ordK (pwL xs k) n) ∧ Below w.heap.size w w' :=
  (implPowOrd n sl xs k w h).mono fun e w' ⟨v, h1, h2, h3⟩ => by
    unfold poL pwR at h2
    rw [tourB_true.2 hp, show inB (k : Int) 0 12 = true from inB_true.2 ⟨by omega, by omega⟩, Bool.and_self, if_pos rfl, Int.toNat_natCast, pwL_len, tour_len hp] at h2
    obtain ⟨A, c, rfl, -, -, -⟩ := h2.form
    rw [ordK_len] at h1 h2
    exact ⟨A, c, h1, h2, h3⟩
theorem cBeat (hp : tourP n xs) (h : Rd w sl xs) (a b : Nat) (ha : a < n) (hb : b < n) : Calls Try.prog 17 #[.agg #[.int .i64 n, sl], .int .i64 a, .int .i64 b] w fun e w' => e = .returned (.bool (bt xs a b)) ∧ Below w.heap.size w w' :=
  (implDoesBeat n sl xs a b w h).mono fun e w' ⟨h1, h3⟩ => by
    rw [beat_bt hp ha hb] at h1
    exact ⟨h1, h3⟩
theorem cOrd {L : List Int} (hl : L.length = n) (hn : n ≤ 40) (h : Rd w sl L) : Calls Try.prog 18 #[sl] w fun e w' => ∃ A c, e = .returned (.slice A n c) ∧ Own w' w.heap.size (.slice A n c) (ordK L n) ∧ Below w.heap.size w w' :=
  (implOrderBy sl L w h).mono fun e w' ⟨v, h1, h2, h3⟩ => by
    rw [obL_eq (by omega), hl] at h2
    obtain ⟨A, c, rfl, -, -, -⟩ := h2.form
    rw [ordK_len] at h1 h2
    exact ⟨A, c, h1, h2, h3⟩
theorem cRank {L : List Int} (hl : L.length = n) (hn : n ≤ 40) (h : Rd w sl L) : Calls Try.prog 19 #[sl] w fun e w' => ∃ A c, e = .returned (.slice A n c) ∧ Own w' w.heap.size (.slice A n c) (rankL L) ∧ Below w.heap.size w w' :=
  (implRankBy sl L w h).mono fun e w' ⟨v, h1, h2, h3⟩ => by
    obtain ⟨A, c, rfl, -, -, -⟩ := h2.form
    rw [rankL_len' (by omega), hl] at h1 h2
    exact ⟨A, c, h1, h2, h3⟩
theorem lvL_len_le (L : List Int) : (lvL L).length ≤ 40 := (lvL_bd L).1
theorem cLev {L : List Int} (h : Rd w sl L) : Calls Try.prog 20 #[sl] w fun e w' => ∃ v, e = .returned v ∧ OwnRows w' w.heap.size v (lvL L) ∧ Below w.heap.size w w' := implLevels sl L w h
theorem cAgree {sl2 : Value} {L M : List Int} (h : Rd w sl L) (h2 : Rd w sl2 M) : Calls Try.prog 22 #[sl, sl2] w fun e w' => e = .returned (.bool (agreeB L M)) ∧ Below w.heap.size w w' :=
  (implDoAgree sl L sl2 M w h h2).mono fun e w' ⟨h1, q, h3⟩ => ⟨h1, by rw [h3]; exact below_drewN (Below.refl _ _) q⟩
end
end Go.Proofs.Ytcmpioalnpmpmaa

namespace Go.Proofs.Ytcmpioalnpmpmaa
open Go.RowKit Go.Sort
set_option maxRecDepth 100000
section
variable {md : Region.Mode} {ops : Array Oper}
def lxPairs (md : Region.Mode) (ops : Array Oper) (k : Nat) (o : Oper) (rest : List Oper) : Bool :=
  rest.all fun oj => oj.after.toList.any (fun e => Region.binds md e && e.on == k) || o.apart ops oj
def lxOk (md : Region.Mode) (ops : Array Oper) : List Oper → Nat → Bool
  | [], _ => true
  | o :: rest, k => (o.after.toList.all fun e => !Region.binds md e || decide (e.on < k)) && lxPairs md ops k o rest && lxOk md ops rest (k + 1)
theorem lexFrom_of : ∀ (l : List Oper) (k : Nat) (listed : Array Bool), (∀ j, l[j]? = ops[k + j]?) → listed.size = ops.size → (∀ j, j < k → j < ops.size → listed.getD j false = true) →
    (∀ j, k ≤ j → j < ops.size → listed.getD j true = false) → lxOk md ops l k = true → Region.lexFrom md ops l.length k listed = true := by
  intro l
  induction l with
  | nil =>
    intro k listed hl hs hlt _ _
    have hk : ops.size ≤ k := by
      have := (hl 0).symm
      simp only [List.getElem?_nil, Nat.add_zero] at this
      exact Array.getElem?_eq_none_iff.1 this
    show (Region.ready md ops listed).isEmpty = true
    rw [List.isEmpty_iff, List.eq_nil_iff_forall_not_mem]
    intro i hi
    obtain ⟨h1, o, ho, -⟩ := mem_ready.1 hi
    have hi2 : i < ops.size := (Array.getElem?_eq_some_iff.1 ho).1
    have h2 := hlt i (by omega) hi2
    have hi3 : i < listed.size := by omega
    simp [hi3] at h1 h2
    rw [h1] at h2
    cases h2
  | cons o rest ih =>
    intro k listed hl hs hlt hge hB
    simp only [lxOk, Bool.and_eq_true] at hB
    obtain ⟨⟨hA, hP⟩, hR⟩ := hB
    have h0 : ops[k]? = some o := by simpa using (hl 0).symm
    have hk : k < ops.size := (Array.getElem?_eq_some_iff.1 h0).1
    show ((Region.ready md ops listed).contains k && Region.free md ops listed k && Region.lexFrom md ops rest.length (k + 1) (listed.setIfInBounds k true)) = true
    rw [Bool.and_eq_true, Bool.and_eq_true]
    refine ⟨⟨?_, ?_⟩, ?_⟩
    · rw [List.contains_iff_mem]
      refine mem_ready.2 ⟨hge k (Nat.le_refl _) hk, o, h0, fun e he hb => ?_⟩
      have h1 := List.all_eq_true.1 hA e (by simpa using he)
      rw [hb] at h1
      simp only [Bool.not_true, Bool.false_or, decide_eq_true_eq] at h1
      exact hlt e.on h1 (by omega)
    · unfold Region.free
      rw [h0]
      simp only [List.all_eq_true, List.mem_range]
      intro j hj
      rw [Bool.or_eq_true, Bool.or_eq_true]
      rcases Nat.lt_trichotomy j k with h | h | h
      · left; right
        have h2 := hlt j h hj
        have hj3 : j < listed.size := by omega
        simp [hj3] at h2 ⊢
        exact h2
      · left; left; simp [h]
      · right
        have hj2 : ops[j]? = some ops[j] := by simp [hj]
        rw [hj2]
        have h3 : rest[j - k - 1]? = some ops[j] := by
          have := hl (j - k)
          rw [show k + (j - k) = j by omega, hj2, show j - k = (j - k - 1) + 1 by omega] at this
          simpa using this
        have h4 := List.all_eq_true.1 hP _ (List.mem_of_getElem? h3)
        rw [Bool.or_eq_true] at h4 ⊢
        rcases h4 with h4 | h4
        · left
          obtain ⟨e, he, hb⟩ := List.any_eq_true.1 h4
          exact Array.any_eq_true'.2 ⟨e, by simpa using he, hb⟩
        · exact .inr h4
    · refine ih (k + 1) _ (fun j => by have := hl (j + 1); simpa [Nat.add_assoc, Nat.add_comm 1 j] using this) (by simp [hs]) (fun j hj hj2 => ?_) (fun j hj hj2 => ?_) hR
      · rcases Nat.lt_or_ge j k with h | h
        · have h2 := hlt j h hj2
          have hj3 : j < listed.size := by omega
          simp [hj3] at h2 ⊢
          rw [Array.getElem_setIfInBounds]
          split
          · rfl
          · exact h2
        · obtain rfl : j = k := by omega
          have hj3 : j < listed.size := by omega
          simp [hj3]
      · have h2 := hge j (by omega) hj2
        have hj3 : j < listed.size := by omega
        simp [hj3] at h2 ⊢
        rw [Array.getElem_setIfInBounds, if_neg (by omega)]
        exact h2
theorem lexB_cheap {l : List Oper} (hs : Region.noSelect l.toArray = true) (h : lxOk md l.toArray l 0 = true) : Region.lexB md l.toArray = true := by
  unfold Region.lexB
  rw [hs, Bool.true_and]
  have := lexFrom_of (md := md) (ops := l.toArray) l 0 (Array.replicate l.toArray.size false) (by simp) (by simp) (fun j hj => by omega) (fun j _ hj => by simp at hj; simp [hj]) h
  simpa using this
end
end Go.Proofs.Ytcmpioalnpmpmaa

namespace Go.Proofs.Ytcmpioalnpmpmaa
open Go.RowKit Go.Sort
set_option maxRecDepth 100000
def offR (rows : List (List Int)) (i : Nat) : Nat := ((rows.take i).map List.length).sum
theorem offR_succ {rows : List (List Int)} {i : Nat} (h : i < rows.length) : offR rows (i + 1) = offR rows i + (rows.getD i []).length := by
  unfold offR
  rw [List.take_succ_eq_append_getElem h, List.map_append, List.sum_append]
  simp [h]
theorem offR_mono {rows : List (List Int)} {i : Nat} : ∀ {j : Nat}, i ≤ j → j ≤ rows.length → offR rows i ≤ offR rows j := by
  intro j
  induction j with
  | zero => intro h _; rw [show i = 0 by omega]; exact Nat.le_refl _
  | succ j ih =>
    intro h hj
    rcases Nat.lt_or_ge i (j + 1) with h1 | h1
    · have := ih (by omega) (by omega)
      rw [offR_succ (by omega)]; omega
    · rw [show i = j + 1 by omega]; exact Nat.le_refl _
theorem offR_len (rows : List (List Int)) : offR rows rows.length = (rows.map List.length).sum := by unfold offR; rw [List.take_length]
theorem sum_bd (rows : List (List Int)) (b : Nat) (h : ∀ r ∈ rows, r.length ≤ b) : (rows.map List.length).sum ≤ b * rows.length := by
  induction rows with
  | nil => simp
  | cons r rows ih =>
    have h1 := h r (by simp)
    have h2 := ih fun r' hr => h r' (by simp [hr])
    rw [List.map_cons, List.sum_cons, List.length_cons, Nat.mul_succ]; omega
/-- the rows that markIntSS writes -/
def marksSS (k : Int) (rows : List (List Int)) : List (List Int) := (List.range rows.length).map fun i => marks (k + offR rows i) (rows.getD i []).length
theorem marksSS_length (k : Int) (rows : List (List Int)) : (marksSS k rows).length = rows.length := by simp [marksSS]
theorem marksSS_getD (k : Int) {rows : List (List Int)} {i : Nat} (h : i < rows.length) : (marksSS k rows).getD i [] = marks (k + offR rows i) (rows.getD i []).length := by simp [marksSS, h]
theorem rows_ext {N M : List (List Int)} {n : Nat} (h1 : N.length = n) (h2 : M.length = n) (h : ∀ i, i < n → N.getD i [] = M.getD i []) : N = M := by
  apply List.ext_getElem (by omega)
  intro i a b
  have := h i (by omega)
  simpa [a, b] using this
end Go.Proofs.Ytcmpioalnpmpmaa

namespace Go.Proofs.Ytcmpioalnpmpmaa
open Go.RowKit Go.Sort
set_option maxRecDepth 100000
/-- the pairs that are done at (a, b) -/
def donePair (a b x y : Nat) : Prop := (x < a ∨ y < a) ∨ (x = a ∧ y < b) ∨ (y = a ∧ x < b)
/-- the rows of a tour that is half made -/
def HalfT (n a b : Nat) (N : List Int) : Prop := N.length = n ∧ ∃ f : Nat → Nat → Bool,
  (∀ x y, f x y = true → x < n ∧ y < n ∧ x ≠ y ∧ donePair a b x y) ∧ (∀ x y, x < n → y < n → x ≠ y → donePair a b x y → f x y = !f y x) ∧ ∀ x, x < n → N.getD x 0 = ((setOf (f x) n : Nat) : Int)
theorem setOf_more {p q : Nat → Bool} {y : Nat} (h0 : p y = false) (h1 : q y = true) (h2 : ∀ z, z ≠ y → q z = p z) : ∀ {n : Nat}, y < n → setOf q n = setOf p n + 2 ^ y := by
  intro n
  induction n with
  | zero => intro h; omega
  | succ n ih =>
    intro h
    simp only [setOf]
    by_cases e : y = n
    · subst e
      rw [h0, h1, setOf_congr (q := p) (fun j hj => h2 j (by omega))]; simp
    · rw [ih (by omega), h2 n (Ne.symm e)]; omega
theorem HalfT.start (n : Nat) : HalfT n 0 1 (List.replicate n 0) := by
  refine ⟨by simp, fun _ _ => false, fun x y h => by simp at h, fun x y hx hy hxy h => ?_, fun x hx => ?_⟩
  · unfold donePair at h; omega
  · rw [setOf_congr (q := fun _ => false) (fun _ _ => rfl)]
    have : setOf (fun _ => false) n = 0 := by
      clear hx
      induction n with
      | zero => rfl
      | succ n ih => simp [setOf, ih]
    rw [this]; simp [hx]
theorem HalfT.row {n a : Nat} {N : List Int} (h : HalfT n a n N) : HalfT n (a + 1) (a + 2) N := by
  obtain ⟨hl, f, h1, h2, h3⟩ := h
  have e : ∀ x y, x < n → y < n → x ≠ y → (donePair a n x y ↔ donePair (a + 1) (a + 2) x y) := fun x y hx hy hxy => by unfold donePair; omega
  exact ⟨hl, f, fun x y h => ⟨(h1 x y h).1, (h1 x y h).2.1, (h1 x y h).2.2.1, (e x y (h1 x y h).1 (h1 x y h).2.1 (h1 x y h).2.2.1).1 (h1 x y h).2.2.2⟩, fun x y hx hy hxy h => h2 x y hx hy hxy ((e x y hx hy hxy).2 h), h3⟩
/-- one game: u beats v, where {u, v} = {a, b} -/
theorem HalfT.game {n a b u v : Nat} {N : List Int} (h : HalfT n a b N) (hab : a < b) (hb : b < n) (huv : (u = a ∧ v = b) ∨ (u = b ∧ v = a)) {X : Nat} (hX : N.getD u 0 = (X : Int)) : HalfT n a (b + 1) (N.set u ((X + 2 ^ v : Nat) : Int)) := by
  obtain ⟨hl, f, h1, h2, h3⟩ := h
  have n1 : f u v = false := by
    rcases e : f u v with _ | _
    · rfl
    · have := (h1 u v e).2.2.2; unfold donePair at this; omega
  have n2 : f v u = false := by
    rcases e : f v u with _ | _
    · rfl
    · have := (h1 v u e).2.2.2; unfold donePair at this; omega
  refine ⟨by simp [hl], fun x y => f x y || (x == u && y == v), fun x y h => ?_, fun x y hx hy hxy hd => ?_, fun x hx => ?_⟩
  · rw [Bool.or_eq_true, Bool.and_eq_true, beq_iff_eq, beq_iff_eq] at h
    rcases h with h | ⟨rfl, rfl⟩
    · obtain ⟨p1, p2, p3, p4⟩ := h1 x y h
      exact ⟨p1, p2, p3, by unfold donePair at p4 ⊢; omega⟩
    · exact ⟨by omega, by omega, by omega, by unfold donePair; omega⟩
  · by_cases e1 : x = u ∧ y = v
    · obtain ⟨rfl, rfl⟩ := e1
      have : (y == x) = false := by simp; omega
      simp [n1, n2, this]
    · by_cases e2 : x = v ∧ y = u
      · obtain ⟨rfl, rfl⟩ := e2
        have : (x == y) = false := by simp; omega
        simp [n1, n2, this]
      · have hd' : donePair a b x y := by unfold donePair at hd ⊢; omega
        have q1 : (x == u && y == v) = false := by
          rcases q : (x == u && y == v) with _ | _
          · rfl
          · simp at q; exact absurd q e1
        have q2 : (y == u && x == v) = false := by
          rcases q : (y == u && x == v) with _ | _
          · rfl
          · simp at q; exact absurd ⟨q.2, q.1⟩ e2
        simp only [q1, q2, Bool.or_false]
        exact h2 x y hx hy hxy hd'
  · by_cases e : x = u
    · subst e
      rw [show (N.set x ((X + 2 ^ v : Nat) : Int)).getD x 0 = ((X + 2 ^ v : Nat) : Int) by simp [List.getD_eq_getElem?_getD, show x < N.length by omega]]
      have e3 : setOf (f x) n = X := by have := h3 x hx; omega
      rw [setOf_more (p := f x) (y := v) n1 (by simp) (fun z hz => by simp [hz]) (by omega), e3]
    · rw [show (N.set u ((X + 2 ^ v : Nat) : Int)).getD x 0 = N.getD x 0 by simp [List.getD_eq_getElem?_getD, List.getElem?_set_ne (Ne.symm e)], h3 x hx]
      have : setOf (fun y => f x y || (x == u && y == v)) n = setOf (f x) n := setOf_congr fun j _ => by simp [e]
      rw [this]
theorem HalfT.lt {n a b : Nat} {N : List Int} (h : HalfT n a b N) {x : Nat} (hx : x < n) : ∃ X : Nat, N.getD x 0 = (X : Int) ∧ X < 2 ^ n := by
  obtain ⟨hl, f, h1, h2, h3⟩ := h
  exact ⟨_, h3 x hx, setOf_lt _ _⟩
theorem HalfT.tour {n b : Nat} {N : List Int} (h : HalfT n n b N) (h1 : 1 ≤ n) (h8 : n ≤ 8) : tourP n N := by
  obtain ⟨hl, f, q1, q2, q3⟩ := h
  have hb : ∀ x y, x < n → bt N x y = (decide (y < n) && f x y) := fun x y hx => by
    unfold bt winsN
    rw [q3 x hx, Int.toNat_natCast, testBit_setOf]
  refine tour_of_bits (by omega) (by omega) (fun i hi => ⟨_, q3 i (by omega), by rw [hl]; exact setOf_lt _ _⟩) (fun a ha => ?_) (fun a c ha hc hac => ?_)
  · rw [hb a a (by omega)]
    rcases e : f a a with _ | _
    · simp
    · exact absurd rfl (q1 a a e).2.2.1
  · rw [hb a c (by omega), hb c a (by omega), q2 a c (by omega) (by omega) hac (by unfold donePair; omega)]
    simp [show a < n by omega, show c < n by omega]
end Go.Proofs.Ytcmpioalnpmpmaa

