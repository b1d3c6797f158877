/- FnExactWayBetween: spec.l06Levels. -/
import Derived.Test.YtkcffjojklmbpabLev
import Derived.Test.YtkcffjojklmbpabWayOn
import Derived.Test.YtkcffjojklmbpabThrS
namespace Go.Proofs.Ytkcffjojklmbpab
open Go.RowKit Go.Sort
set_option maxRecDepth 100000
def lvL (xs : List Int) (n b r : Nat) : List Int := (List.range n).map (lv xs n b r)
theorem lvL_len (xs : List Int) (n b r : Nat) : (lvL xs n b r).length = n := by simp [lvL]
theorem lvL_at {xs : List Int} {n b r a : Nat} (h : a < n) : (lvL xs n b r).getD a 0 = lv xs n b r a := by simp [lvL, h]
def mixL (xs : List Int) (n b r i : Nat) : List Int := (List.range n).map fun a => if a < i then lv xs n b (r + 1) a else lv xs n b r a
theorem mixL_len (xs : List Int) (n b r i : Nat) : (mixL xs n b r i).length = n := by simp [mixL]
theorem mixL_at {xs : List Int} {n b r i a : Nat} (h : a < n) : (mixL xs n b r i).getD a 0 = if a < i then lv xs n b (r + 1) a else lv xs n b r a := by simp [mixL, h]
theorem mixL_zero (xs : List Int) (n b r : Nat) : mixL xs n b r 0 = lvL xs n b r := by simp [mixL, lvL]
theorem mixL_all (xs : List Int) (n b r : Nat) : mixL xs n b r n = lvL xs n b (r + 1) := list_ext0 (mixL_len _ _ _ _ _) (lvL_len _ _ _ _) fun i hi => by rw [mixL_at hi, if_pos hi, lvL_at hi]
theorem mixL_next {xs : List Int} {n b r a : Nat} (ha : a < n) : (mixL xs n b r a).set a (lv xs n b (r + 1) a) = mixL xs n b r (a + 1) :=
  list_ext0 (by rw [List.length_set, mixL_len]) (mixL_len _ _ _ _ _) fun i hi => by
    by_cases e : i = a
    · subst e
      rw [getD_set_same _ (by rw [mixL_len]; exact ha), mixL_at hi, if_pos (by omega)]
    · rw [getD_set_other _ (Ne.symm e), mixL_at hi, mixL_at hi]
      by_cases h : i < a
      · rw [if_pos h, if_pos (by omega)]
      · rw [if_neg h, if_neg (by omega)]
def lvV (xs : List Int) (n b r a j : Nat) : Int := if lv xs n b r a < 0 ∧ (((memN (winsN xs a) n).take j).any fun c => lv xs n b r c == (r : Int)) = true then (r : Int) + 1 else lv xs n b r a
theorem lvV_zero (xs : List Int) (n b r a : Nat) : lvV xs n b r a 0 = lv xs n b r a := by simp [lvV]
theorem lvV_all {xs : List Int} {n b r a j : Nat} (h : (memN (winsN xs a) n).length = j) : lvV xs n b r a j = lv xs n b (r + 1) a := by
  unfold lvV
  rw [lv_succ, lvHit, List.take_of_length_le (by omega)]
theorem lvV_bd (xs : List Int) (n b r a j : Nat) : -1 ≤ lvV xs n b r a j ∧ lvV xs n b r a j ≤ r + 1 := by
  have := lv_bd xs n b r a
  unfold lvV
  split <;> omega
theorem lvV_any {xs : List Int} {n b r a j : Nat} (hj : j < (memN (winsN xs a) n).length) : (((memN (winsN xs a) n).take (j + 1)).any fun c => lv xs n b r c == (r : Int)) = ((((memN (winsN xs a) n).take j).any fun c => lv xs n b r c == (r : Int)) || (lv xs n b r ((memN (winsN xs a) n).getD j 0) == (r : Int))) := by
  rw [take_snocN' hj, List.any_append, List.any_cons, List.any_nil, Bool.or_false]
theorem lvV_pos {xs : List Int} {n b r a j : Nat} (hj : j < (memN (winsN xs a) n).length) (h : 0 ≤ lvV xs n b r a j) : lvV xs n b r a (j + 1) = lvV xs n b r a j := by
  unfold lvV at h ⊢
  rw [lvV_any hj]
  by_cases h1 : lv xs n b r a < 0
  · rcases q : (((memN (winsN xs a) n).take j).any fun c => lv xs n b r c == (r : Int)) with _ | _
    · rw [q, if_neg (by simp)] at h; omega
    · simp
  · rw [if_neg (fun h => h1 h.1), if_neg (fun h => h1 h.1)]
theorem lvV_neg {xs : List Int} {n b r a j : Nat} (h : lvV xs n b r a j < 0) : lvV xs n b r a j = lv xs n b r a ∧ lv xs n b r a < 0 := by
  unfold lvV at h ⊢
  split
  · rename_i hc; rw [if_pos hc] at h; omega
  · rename_i hc; rw [if_neg hc] at h; exact ⟨rfl, h⟩
theorem lvV_hit {xs : List Int} {n b r a j : Nat} (hj : j < (memN (winsN xs a) n).length) (h : lvV xs n b r a j < 0) (hc : lv xs n b r ((memN (winsN xs a) n).getD j 0) = (r : Int)) : lvV xs n b r a (j + 1) = (r : Int) + 1 := by
  unfold lvV
  rw [lvV_any hj, if_pos ⟨(lvV_neg h).2, by rw [hc]; simp⟩]
theorem lvV_miss {xs : List Int} {n b r a j : Nat} (hj : j < (memN (winsN xs a) n).length) (hc : ¬ lv xs n b r ((memN (winsN xs a) n).getD j 0) = (r : Int)) : lvV xs n b r a (j + 1) = lvV xs n b r a j := by
  unfold lvV
  have : (lv xs n b r ((memN (winsN xs a) n).getD j 0) == (r : Int)) = false := by simpa using hc
  rw [lvV_any hj, this, Bool.or_false]
/-- what is read there in the middle of a round -/
theorem mix_read {xs : List Int} {n b r a c : Nat} {x : Int} (ha : a < n) (hc : c < n) (hx : x = lv xs n b r a) (hx0 : x < 0) : (((mixL xs n b r a).set a x).getD c 0 = (r : Int)) ↔ lv xs n b r c = (r : Int) := by
  by_cases e : c = a
  · subst e
    rw [getD_set_same _ (by rw [mixL_len]; exact ha)]
    omega
  · rw [getD_set_other _ (Ne.symm e), mixL_at hc]
    split
    · rw [lv_succ]
      have := lv_bd xs n b r c
      split <;> omega
    · exact Iff.rfl
set_option maxHeartbeats 4000000 in
theorem l06Levels_any (n : Nat) (sl : Value) (xs : List Int) (hp : tourP n xs) (b : Nat) (hb : b < n) (w : World) (h : Rd w sl xs) :
    Calls Try.prog 40 #[.agg #[.int .i64 n, sl], .int .i64 b] w fun e w' => ∃ v', e = .returned v' ∧ Own w' w.heap.size v' (lvL xs n b n) ∧ Below w.heap.size w w' := by
  obtain ⟨gt, off, ct, rfl, hmt, hgt, hxt⟩ := tour_cells h hp
  unfold maxLen at hmt
  have hs := hp.1
  have hsl := hp.2.1
  have HXT := Lib.hid hxt
  have HW := Lib.hid (fun j hj => (tour_wins hp (a := j) hj).2.1)
  clear hp h hxt
  generalize hn : xs.length = n' at *
  obtain rfl : n = n' := by omega
  rw [Int.toNat_natCast] at HW
  have hn8 : 1 ≤ n ∧ n ≤ 8 := by omega
  have HN := Lib.hid hn
  clear hn
  go_enter Try.func40, Try.ntmps40
  go_wp2_with fail
  have HB0 := Lib.hid (below_alloc1 w (.cells #[.int .i64 n, .slice (some ⟨gt, off, none⟩) n ct] 28))
  have HX0 := Lib.hid (TBox.new w n (.slice (some ⟨gt, off, none⟩) n ct) 28)
  have hsz1 : (w.alloc (.cells #[.int .i64 n, .slice (some ⟨gt, off, none⟩) n ct] 28)).heap.size = w.heap.size + 1 := by simp
  generalize w.alloc (.cells #[.int .i64 n, .slice (some ⟨gt, off, none⟩) n ct] 28) = w0 at *
  have hsz0 := HB0.out.size
  have hgb := World.block_lt_of_cell? _ _ HX0.out.1
  have ho0 : Own (w0.alloc (.cells #[] 3)) w0.heap.size (.slice (some ⟨w0.heap.size, 0, none⟩) 0 0) (List.replicate 0 (-1)) := Own.lit w0 w0.heap.size [] (Nat.le_refl _) (by simp)
  have HO0 := Lib.hid (show Own (w0.alloc (.cells #[] 3)) w0.heap.size (.slice (some ⟨w.heap.size + 1, 0, none⟩) 0 0) (List.replicate 0 (-1)) from by rw [← hsz1]; exact ho0)
  clear ho0
  have HX1 := Lib.hid (HX0.out.below (below_alloc1 w0 (.cells #[] 3)))
  have HB1 := Lib.hid (HB0.out.alloc hsz0 (.cells #[] 3))
  have y1_1 := HX1.out.2
  go_wp2
  go_loopw [5, 15] (fun v i wr => ∃ j : Nat, j ≤ n ∧ i = .int .i64 j ∧ Own wr w0.heap.size v (List.replicate j (-1)) ∧ Below w.heap.size w wr ∧ TBox wr w.heap.size n (.slice (some ⟨gt, off, none⟩) n ct) ∧ w0.heap.size ≤ wr.heap.size) (fun _ i _ => n - (intOf i).toNat)
  case atStart => exact ⟨0, by omega, rfl, HO0.out, HB1.out, HX1.out, by simp⟩
  case round =>
    obtain ⟨wo, rfl⟩ : ∃ x, x = wr := ⟨_, rfl⟩
    obtain ⟨j, hj, rfl, hown, hb1, hx1, hsz⟩ := hrel
    have HBo := Lib.hid hb1
    have HXo := Lib.hid hx1
    clear hb1 hx1
    by_cases hlt : j < n
    · obtain ⟨V, cv, rfl, -, -, -⟩ := hown.form
      have ho := hown
      clear hown
      have hlen : (List.replicate j (-1 : Int)).length = j := by simp
      go_wp2_with (at_builtin; refine wp_append1 wo rfl (.tmp 17) (.tmp 18) rfl w0.heap.size _ (List.replicate j (-1)) (-1) (by simp [Act.eval]) ho (by simp [Act.eval]) (by omega) (by exact hsz) ?_; intro v' w7 hown1 hg1; have HO7 := Lib.hid hown1; have HB7 := Lib.hid (below_append HBo.out hg1 ho hsz0 hsz); have HX7 := Lib.hid (HXo.out.kept hg1 (nb_ne (own_ne (fun k hk => (ho.lt k hk).1) (by omega)))); have hsz7 := hg1.size; clear hown1 hg1)
      go_roundw
      case rel => exact ⟨j + 1, by omega, by go_num, by rw [List.replicate_succ']; exact HO7.out, HB7.out, HX7.out, Nat.le_trans hsz hsz7⟩
      case measure => simp [intOf]; omega
    · obtain rfl : n = j := by omega
      obtain ⟨g, c, rfl, hbg, hc, hnc, hcell, hf⟩ := hown.at_ (n := n) (by simp) (by omega)
      unfold maxLen at hc
      have hcb := hcell b hb
      have hfb := hf b
      have hst := hown.set_ (by simp) b 0
      have hL0 : (List.replicate n (-1 : Int)).set b 0 = lvL xs n b 0 := list_ext0 (by simp) (lvL_len _ _ _ _) fun i hi => by
        rw [lvL_at hi]
        by_cases e : i = b
        · subst e
          rw [getD_set_same _ (by simpa using hi)]; simp [lv]
        · rw [getD_set_other _ (Ne.symm e)]; simp [lv, e, hi]
      rw [hL0] at hst
      have HO1 := Lib.hid hst.1
      have HG1 := Lib.hid hst.2
      have hgw : w.heap.size < g := by omega
      have HB1 := Lib.hid (HBo.out.grown hst.2 HBo.out.size (fun k hk => by injection hk with hk; omega))
      have HX1 := Lib.hid (HXo.out.kept hst.2 (by intro h; injection h with h; omega))
      clear hst hown hcell hf hL0
      go_wp2
      clear hcb hfb
      generalize wo.setCell ⟨g, b, none⟩ (.int .i64 0) = w1 at *
      go_loopw [6] (fun i wr => ∃ r : Nat, r ≤ n ∧ i = .int .i64 r ∧ Hid (Own wr w0.heap.size (.slice (some ⟨g, 0, none⟩) n c) (lvL xs n b r)) ∧ Hid (Below w.heap.size w wr) ∧ Hid (TBox wr w.heap.size n (.slice (some ⟨gt, off, none⟩) n ct))) (fun i _ => n - (intOf i).toNat)
      case atStart => exact ⟨0, by omega, rfl, HO1.out, HB1.out, HX1.out⟩
      case round =>
        obtain ⟨w2, rfl⟩ : ∃ x, x = wr := ⟨_, rfl⟩
        obtain ⟨r, hr, rfl, HO2, HB2, HX2⟩ := hrel
        have y0 := HX2.out.1
        have y1 := HX2.out.2
        by_cases hrn : r < n
        · go_wp2
          clear y0 y1
          go_loopw [33] (fun i wr => ∃ a : Nat, a ≤ n ∧ i = .int .i64 a ∧ Hid (Own wr w0.heap.size (.slice (some ⟨g, 0, none⟩) n c) (mixL xs n b r a)) ∧ Hid (Below w.heap.size w wr) ∧ Hid (TBox wr w.heap.size n (.slice (some ⟨gt, off, none⟩) n ct))) (fun i _ => n - (intOf i).toNat)
          case atStart => exact ⟨0, by omega, rfl, by rw [mixL_zero]; exact HO2.out, HB2.out, HX2.out⟩
          case round =>
            obtain ⟨w3, rfl⟩ : ∃ x, x = wr := ⟨_, rfl⟩
            obtain ⟨a, ha, rfl, HO3, HB3, HX3⟩ := hrel
            by_cases han : a < n
            · have hwa := (HB3.out.cell (p := ⟨gt, off + a, none⟩) hgt).trans (HXT.out a han)
              have hW := HW.out a han
              have HNX : Hid ((mixL xs n b r a).set a (lv xs n b (r + 1) a) = mixL xs n b r (a + 1)) := mixL_next han
              have HST : Hid ((mixL xs n b r a).set a (lvV xs n b r a 0) = mixL xs n b r a) := by
                unfold Hid
                refine list_ext0 (n := n) (by rw [List.length_set, mixL_len]) (mixL_len _ _ _ _ _) fun i hi => ?_
                by_cases e : i = a
                · subst e
                  rw [getD_set_same _ (by rw [mixL_len]; exact hi), mixL_at hi, if_neg (by omega), lvV_zero]
                · rw [getD_set_other _ (Ne.symm e)]
              go_wp2_with fail
              refine (l02List_any (winsN xs a) n w3 hW (by omega)).mono ?_
              rintro e w4 ⟨v4, rfl, ho4, hb4⟩
              obtain ⟨A4, d4, rfl, hd1, hd2, hl4⟩ := memL_cells ho4
              unfold maxLen at hd1
              have hsz3 := HB3.out.size
              have HLC := Lib.hid hl4
              have HBX := Lib.hid (fun (g2 off2 : Nat) (h : A4 = some ⟨g2, off2, none⟩) => (ho4.lt g2 (by rw [h]; rfl)).1)
              have HLT := Lib.hid (fun j (h : j < (memN (winsN xs a) n).length) => memN_at' (S := winsN xs a) (n := n) (b := (memN (winsN xs a) n).getD j 0) (by rw [getD_nat h]; exact List.getElem_mem _))
              have hmn := memN_len (winsN xs a) n
              have hgl := (HO3.out.lt g rfl).2
              have HO4 := Lib.hid (HO3.out.below hb4)
              have HB4 := Lib.hid (Below.then HB3.out hb4)
              have HX4 := Lib.hid (HX3.out.below hb4)
              have HVP := Lib.hid (fun j => @lvV_pos xs n b r a j)
              have HVH := Lib.hid (fun j => @lvV_hit xs n b r a j)
              have HVM := Lib.hid (fun j => @lvV_miss xs n b r a j)
              have HVA := Lib.hid (fun j => @lvV_all xs n b r a j)
              clear hl4 ho4 hb4 hwa hW
              generalize memN (winsN xs a) n = LL at *
              generalize hmm : LL.length = mm at *
              have HMM := Lib.hid hmm
              clear hmm
              go_wp2
              go_loopw [41] (fun i wr => ∃ j : Nat, j ≤ mm ∧ i = .int .i64 j ∧ Hid (Own wr w0.heap.size (.slice (some ⟨g, 0, none⟩) n c) ((mixL xs n b r a).set a (lvV xs n b r a j))) ∧ Hid (w4.grownBy wr (some g))) (fun i _ => mm - (intOf i).toNat)
              case atStart => exact ⟨0, by omega, rfl, by rw [HST.out]; exact HO4.out, World.grownBy.refl _ _⟩
              case round =>
                obtain ⟨w5, rfl⟩ : ∃ x, x = wr := ⟨_, rfl⟩
                obtain ⟨j, hj, rfl, HO5, HG5⟩ := hrel
                by_cases hjm : j < mm
                · obtain ⟨g2, off2, rfl, hg2, hx2⟩ := HLC.out (by omega)
                  have hg2b := HBX.out g2 off2 rfl
                  have hcj := (World.cell?_of_block (a := ⟨g2, off2 + j, none⟩) (HG5.out.block g2 hg2 (by intro h; injection h with h; omega))).trans (hx2 j hjm)
                  have hcn := HLT.out j hjm
                  have hlen5 : ((mixL xs n b r a).set a (lvV xs n b r a j)).length = n := by rw [List.length_set, mixL_len]
                  have hat := HO5.out.at1 hlen5 (by omega)
                  have hca := hat.1 a han
                  have hfa := hat.2 a
                  have hcc := hat.1 (LL.getD j 0) hcn
                  rw [getD_set_same _ (by rw [mixL_len]; exact han)] at hca
                  have hbd := lvV_bd xs n b r a j
                  have HMR := Lib.hid (fun (h : lvV xs n b r a j < 0) => mix_read (xs := xs) (b := b) (r := r) han hcn (lvV_neg h).1 h)
                  have HVPj := Lib.hid (HVP.out j hjm)
                  have HVHj := Lib.hid (HVH.out j hjm)
                  have HVMj := Lib.hid (HVM.out j hjm)
                  have HSS := Lib.hid (HO5.out.set_ hlen5 a ((r : Int) + 1))
                  clear hx2 hat hlen5
                  generalize LL.getD j 0 = cc at *
                  generalize ((mixL xs n b r a).set a (lvV xs n b r a j)).getD cc 0 = Y at *
                  obtain ⟨X, hX⟩ : ∃ X, X = lvV xs n b r a j := ⟨_, rfl⟩
                  rw [← hX] at hca hbd
                  have HX := Lib.hid hX
                  clear hX
                  by_cases hX0 : X < 0
                  · have hlt0 : lvV xs n b r a j < 0 := by have := HX.out; omega
                    by_cases hY : Y = (r : Int)
                    · have HV : Hid (lvV xs n b r a (j + 1) = (r : Int) + 1) := HVHj.out hlt0 ((HMR.out hlt0).1 hY)
                      subst hY
                      have HO6 := Lib.hid HSS.out.1
                      have HG6 := Lib.hid (HG5.out.trans HSS.out.2)
                      go_wp2
                      go_roundw
                      case rel =>
                        refine ⟨j + 1, by omega, by go_num, ?_, HG6.out⟩
                        rw [HV.out]
                        have := HO6.out
                        rwa [List.set_set] at this
                      case measure => simp [intOf]; omega
                    · have HV : Hid (lvV xs n b r a (j + 1) = lvV xs n b r a j) := HVMj.out (fun h => hY ((HMR.out hlt0).2 h))
                      have hYb : (Y == (r : Int)) = false := by simpa using hY
                      go_wp2
                      go_roundw
                      case rel => exact ⟨j + 1, by omega, by go_num, by rw [HV.out]; exact HO5.out, HG5.out⟩
                      case measure => simp [intOf]; omega
                  · have HV : Hid (lvV xs n b r a (j + 1) = lvV xs n b r a j) := HVPj.out (by have := HX.out; omega)
                    go_wp2
                    go_roundw
                    case rel => exact ⟨j + 1, by omega, by go_num, by rw [HV.out]; exact HO5.out, HG5.out⟩
                    case measure => simp [intOf]; omega
                · obtain rfl : mm = j := by omega
                  have HE : Hid (lvV xs n b r a mm = lv xs n b (r + 1) a) := HVA.out mm rfl
                  have HB6 := Lib.hid (HB4.out.grown HG5.out HB4.out.size (fun k hk => by injection hk with hk; omega))
                  have HX6 := Lib.hid (HX4.out.kept HG5.out (by intro h; injection h with h; omega))
                  go_wp2
                  go_roundw
                  case rel => exact ⟨a + 1, by omega, by go_num, by rw [← HNX.out, ← HE.out]; exact HO5.out, HB6.out, HX6.out⟩
                  case measure => simp [intOf]; omega
            · obtain rfl : n = a := by omega
              go_wp2
              go_roundw
              case rel => exact ⟨r + 1, by omega, by go_num, by rw [← mixL_all]; exact HO3.out, HB3.out, HX3.out⟩
              case measure => simp [intOf]; omega
        · obtain rfl : n = r := by omega
          go_wp2
          go_ret
          exact ⟨_, rfl, HO2.out.mono hsz0, HB2.out⟩
end Go.Proofs.Ytkcffjojklmbpab
