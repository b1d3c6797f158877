/- Texts put together: SortI. -/
import Derived.Test.YthoodjjjklbggaaGreatDoorMTriangles01
import Derived.Test.YthoodjjjklbggaaGreatDoorMTriangles03
import Derived.Test.YthoodjjjklbggaaGreatDoorMTriangles02
import Derived.Deep.RegionLaw
namespace Go.Proofs.YthoodjjjklbggaaGreatDoor
open Go.RowKit Go.Sort
set_option maxRecDepth 100000

/-- from the right: how far x goes -/
def posR (bef : Int → Int → Bool) (x : Int) (S : List Int) : Nat → Nat
  | 0 => 0
  | k + 1 => if bef x (S.getD k 0) = true then posR bef x S k else k + 1
def insR (bef : Int → Int → Bool) (S : List Int) (x : Int) : List Int := S.take (posR bef x S S.length) ++ x :: S.drop (posR bef x S S.length)
def sortR (bef : Int → Int → Bool) (L : List Int) : List Int := L.foldl (insR bef) []
theorem posR_le (bef : Int → Int → Bool) (x : Int) (S : List Int) (k : Nat) : posR bef x S k ≤ k := by
  induction k with
  | zero => exact Nat.le_refl _
  | succ k ih =>
    simp only [posR]
    split <;> omega
theorem posR_go {bef : Int → Int → Bool} {x : Int} {S : List Int} {k : Nat} (h : bef x (S.getD k 0) = true) : posR bef x S (k + 1) = posR bef x S k := by simp only [posR, h, if_true]
theorem posR_stop {bef : Int → Int → Bool} {x : Int} {S : List Int} {k : Nat} (h : bef x (S.getD k 0) = false) : posR bef x S (k + 1) = k + 1 := by simp only [posR, h]; rfl
theorem insR_len (bef : Int → Int → Bool) (S : List Int) (x : Int) : (insR bef S x).length = S.length + 1 := by
  have := posR_le bef x S S.length
  unfold insR
  simp; omega
theorem sortR_succ (bef : Int → Int → Bool) (L : List Int) {i : Nat} (h : i < L.length) : sortR bef (L.take (i + 1)) = insR bef (sortR bef (L.take i)) (L.getD i 0) := by
  unfold sortR
  rw [List.take_succ_eq_append_getElem h, List.foldl_append, show L.getD i 0 = L[i] by simp [h]]
  rfl
theorem sortR_len (bef : Int → Int → Bool) (L : List Int) {i : Nat} (h : i ≤ L.length) : (sortR bef (L.take i)).length = i := by
  induction i with
  | zero => rfl
  | succ i ih => rw [sortR_succ bef L (by omega), insR_len, ih (by omega)]
/-- the row while x is on its way: it stands at j -/
def midR (S : List Int) (x : Int) (rest : List Int) (j : Nat) : List Int := S.take j ++ x :: S.drop j ++ rest
theorem midR_len (S : List Int) (x : Int) (rest : List Int) (j : Nat) (h : j ≤ S.length) : (midR S x rest j).length = S.length + 1 + rest.length := by
  unfold midR; simp; omega
theorem midR_at (S : List Int) (x : Int) (rest : List Int) (j : Nat) (h : j ≤ S.length) : (midR S x rest j).getD j 0 = x := by
  unfold midR
  have hl : (S.take j).length = j := by rw [List.length_take]; omega
  rw [List.append_assoc, List.getD_eq_getElem?_getD, List.getElem?_append_right (by omega), hl, Nat.sub_self]
  rfl
theorem midR_prev (S : List Int) (x : Int) (rest : List Int) (j : Nat) (h : j + 1 ≤ S.length) : (midR S x rest (j + 1)).getD j 0 = S.getD j 0 := by
  unfold midR
  have hl : (S.take (j + 1)).length = j + 1 := by rw [List.length_take]; omega
  rw [List.append_assoc, List.getD_eq_getElem?_getD, List.getElem?_append_left (by omega), List.getElem?_take, if_pos (by omega), ← List.getD_eq_getElem?_getD]
theorem midR_swap (S : List Int) (x : Int) (rest : List Int) (j : Nat) (h : j + 1 ≤ S.length) : ((midR S x rest (j + 1)).set (j + 1) (S.getD j 0)).set j x = midR S x rest j := by
  have e1 : S.take (j + 1) = S.take j ++ [S.getD j 0] := by
    rw [List.take_succ_eq_append_getElem (by omega), show S.getD j 0 = S[j] by simp [show j < S.length by omega]]
  have e2 : S.drop j = S.getD j 0 :: S.drop (j + 1) := by
    rw [List.drop_eq_getElem_cons (by omega : j < S.length), show S.getD j 0 = S[j] by simp [show j < S.length by omega]]
  have hlj : (S.take j).length = j := by rw [List.length_take]; omega
  unfold midR
  rw [e1, e2]
  generalize S.getD j 0 = y
  generalize S.take j = P at *
  simp only [List.append_assoc, List.cons_append, List.nil_append]
  rw [List.set_append_right _ _ (by omega), hlj, show j + 1 - j = 1 by omega, List.set_cons_succ, List.set_cons_zero, List.set_append_right _ _ (by omega), hlj, Nat.sub_self, List.set_cons_zero]
theorem midR_start (S : List Int) (x : Int) (rest : List Int) : midR S x rest S.length = S ++ x :: rest := by
  unfold midR; simp
theorem midR_end (bef : Int → Int → Bool) (S : List Int) (x : Int) (rest : List Int) (j : Nat) (h : posR bef x S S.length = j) : midR S x rest j = insR bef S x ++ rest := by
  unfold midR insR; rw [h]
theorem mem_insR {bef : Int → Int → Bool} {S : List Int} {x y : Int} (h : y ∈ insR bef S x) : y = x ∨ y ∈ S := by
  unfold insR at h
  rw [List.mem_append, List.mem_cons] at h
  rcases h with h | h | h
  · exact .inr (List.mem_of_mem_take h)
  · exact .inl h
  · exact .inr (List.mem_of_mem_drop h)
theorem mem_sortR {bef : Int → Int → Bool} {L : List Int} {y : Int} {i : Nat} (hi : i ≤ L.length) (h : y ∈ sortR bef (L.take i)) : y ∈ L := by
  induction i with
  | zero => simp [sortR] at h
  | succ i ih =>
    rw [sortR_succ bef L (by omega)] at h
    rcases mem_insR h with rfl | h
    · rw [show L.getD i 0 = L[i] by simp [show i < L.length by omega]]; exact List.getElem_mem _
    · exact ih (by omega) h
theorem drop_eq' {L : List Int} {k : Nat} (h : k < L.length) : L.drop k = L.getD k 0 :: L.drop (k + 1) := by
  rw [List.drop_eq_getElem_cons h, show L.getD k 0 = L[k] by simp [h]]
theorem getD_memI {L : List Int} {i : Nat} (h : i < L.length) : L.getD i 0 ∈ L := by
  rw [show L.getD i 0 = L[i] by simp [h]]; exact List.getElem_mem h
theorem sortR_one (bef : Int → Int → Bool) (L : List Int) (h : 1 ≤ L.length) : sortR bef (L.take 1) ++ L.drop 1 = L := by
  cases L with
  | nil => simp at h
  | cons x L => simp [sortR, insR, posR]
set_option maxHeartbeats 4000000 in
theorem insSort_any (F : FuncId) (caps : Array Value) (hE : Enters F) (cf : Int → Int → Int) (L : List Int) (n base g c : Nat) (w : World) (hl : L.length = n) (hn : n ≤ 40) (hc : c ≤ 4611686018427387904) (hnc : n ≤ c) (h1 : 1 ≤ n) (hbase : base ≤ w.heap.size)
    (h : Own w base (.slice (some ⟨g, 0, none⟩) n c) L)
    (hf : ∀ x ∈ L, ∀ y ∈ L, ∀ w', Below base w w' → Calls Tryz.prog F (#[.int .i64 x, .int .i64 y] ++ caps) w' fun e w'' => e = .returned (.int .i64 (cf x y)) ∧ Below w'.heap.size w' w'') :
    Calls Tryz.prog 93 #[.slice (some ⟨g, 0, none⟩) n c, .int .i64 0, .int .i64 n, .func (.func F) #[] caps] w fun e w' => e = .returned (.tuple #[]) ∧ Own w' base (.slice (some ⟨g, 0, none⟩) n c) (sortR (fun x y => decide (cf x y < 0)) L) ∧ Below base w w' := by
  have HF := Lib.hid hf
  clear hf
  have hE' : ∀ (args : Array Value) (W : World), (callFunc F args).run Tryz.prog W = .ok (.enter F args) W := hE
  have hg := (h.lt g rfl)
  have HO0 := Lib.hid h
  have HL := Lib.hid hl
  clear h hl
  generalize hbef : (fun x y => decide (cf x y < 0)) = bef at *
  have HBEF : Hid (∀ x y, bef x y = decide (cf x y < 0)) := fun x y => by rw [← hbef]
  clear hbef
  go_enter Tryz.func93, Tryz.ntmps93
  go_wp2
  go_loopw [8] (fun i wr => ∃ k : Nat, 1 ≤ k ∧ k ≤ n ∧ i = .int .i64 k ∧ Own wr base (.slice (some ⟨g, 0, none⟩) n c) (sortR bef (L.take k) ++ L.drop k) ∧ Below base w wr) (fun i _ => n - (intOf i).toNat)
  case atStart => exact ⟨1, by omega, h1, by go_num, by rw [sortR_one bef L (by rw [HL.out]; exact h1)]; exact HO0.out, (Below.refl _ _).mono hbase⟩
  case round =>
    obtain ⟨wo, rfl⟩ : ∃ x, x = wr := ⟨_, rfl⟩
    obtain ⟨k, hk1, hk, rfl, ho, hb⟩ := hrel
    have HO := Lib.hid ho
    have HB := Lib.hid hb
    clear ho hb
    by_cases hlt : k < n
    · go_wp2
      go_loopw [9] (fun i wr => ∃ j : Nat, j ≤ k ∧ i = .int .i64 j ∧ Own wr base (.slice (some ⟨g, 0, none⟩) n c) (midR (sortR bef (L.take k)) (L.getD k 0) (L.drop (k + 1)) j) ∧ Hid (posR bef (L.getD k 0) (sortR bef (L.take k)) k = posR bef (L.getD k 0) (sortR bef (L.take k)) j) ∧ Below base w wr) (fun i _ => (intOf i).toNat)
      case atStart => exact ⟨k, by omega, rfl, by
        have e := midR_start (sortR bef (L.take k)) (L.getD k 0) (L.drop (k + 1))
        rw [sortR_len bef L (by rw [HL.out]; omega)] at e
        rw [e, ← drop_eq' (by rw [HL.out]; exact hlt)]; exact HO.out, rfl, HB.out⟩
      case round =>
        obtain ⟨j, hj, rfl, ho, HP, hb⟩ := hrel
        have HOj := Lib.hid ho
        have HBj := Lib.hid hb
        have hSl := sortR_len bef L (i := k) (by rw [HL.out]; omega)
        have HMA := Lib.hid (midR_at (sortR bef (L.take k)) (L.getD k 0) (L.drop (k + 1)) j (by omega))
        have HML := Lib.hid (midR_len (sortR bef (L.take k)) (L.getD k 0) (L.drop (k + 1)) j (by omega))
        clear ho hb
        rcases Nat.eq_zero_or_pos j with rfl | hj0
        · go_wp2_with fail
          refine wp_region_below (by kernel_rfl) (by kernel_rfl) ?_
          repeat (go_big_quiet_step (first | (with_reducible fail)))
          refine wpQuiet_nil ?_
          intro wq hbq0
          have HBQ := Lib.hid hbq0
          clear hbq0
          have hpos : posR bef (L.getD k 0) (sortR bef (L.take k)) (sortR bef (L.take k)).length = 0 := by rw [hSl]; exact HP.out
          have HFIN := Lib.hid (midR_end bef (sortR bef (L.take k)) (L.getD k 0) (L.drop (k + 1)) 0 hpos)
          have HSU := Lib.hid (sortR_succ bef L (show k < L.length by rw [HL.out]; exact hlt))
          clear hpos
          go_wp2
          go_roundw
          case rel => exact ⟨k + 1, by omega, by omega, by go_num, by rw [HSU.out, ← HFIN.out]; exact HOj.out.below HBQ.out, HBj.out.trans (HBQ.out.mono (Nat.le_trans hbase HBj.out.size))⟩
          case measure => simp [intOf]; omega
        · obtain ⟨j, rfl⟩ : ∃ i, j = i + 1 := ⟨j - 1, by omega⟩
          have hx : L.getD k 0 ∈ L := getD_memI (by rw [HL.out]; exact hlt)
          have hy : (sortR bef (L.take k)).getD j 0 ∈ L := mem_sortR (i := k) (by rw [HL.out]; omega) (getD_memI (by omega))
          have HPR := Lib.hid (midR_prev (sortR bef (L.take k)) (L.getD k 0) (L.drop (k + 1)) j (by omega))
          have HSW := Lib.hid (midR_swap (sortR bef (L.take k)) (L.getD k 0) (L.drop (k + 1)) j (by omega))
          have HGO := Lib.hid (fun h => posR_go (bef := bef) (x := L.getD k 0) (S := sortR bef (L.take k)) (k := j) h)
          have HST := Lib.hid (fun h => posR_stop (bef := bef) (x := L.getD k 0) (S := sortR bef (L.take k)) (k := j) h)
          have HEND := Lib.hid (fun h => midR_end bef (sortR bef (L.take k)) (L.getD k 0) (L.drop (k + 1)) (j + 1) h)
          have HSU := Lib.hid (sortR_succ bef L (show k < L.length by rw [HL.out]; exact hlt))
          have HBF := Lib.hid (HBEF.out (L.getD k 0) ((sortR bef (L.take k)).getD j 0))
          have hlr : (L.drop (k + 1)).length = n - (k + 1) := by rw [List.length_drop, HL.out]
          rw [hSl, hlr] at HML
          have hlM : (midR (sortR bef (L.take k)) (L.getD k 0) (L.drop (k + 1)) (j + 1)).length = n := by rw [HML.out]; omega
          obtain ⟨hxc, hfz⟩ := HOj.out.at1 hlM (by omega)
          have z1 := hxc (j + 1) (by omega)
          have z0 := hxc j (by omega)
          rw [HMA.out] at z1
          rw [HPR.out] at z0
          have k1 := quiet_below (w := wr) (fun W hW => HF.out _ hx _ hy W (HBj.out.trans (hW.mono (Nat.le_trans hbase HBj.out.size))))
          rw [hSl] at HEND
          clear hx hy hxc hfz hlr
          generalize hS : sortR bef (L.take k) = S at *
          generalize hX : L.getD k 0 = x at *
          generalize hR : L.drop (k + 1) = rest at *
          generalize hY : S.getD j 0 = y at *
          have hk1 := k1 0 #[]
          rcases hq : bef x y with _ | _
          · have hr : ¬ cf x y < 0 := by rw [HBF.out] at hq; exact of_decide_eq_false hq
            generalize cf x y = r at *
            go_wp2_with fail
            have c1 := cell_regrown z1
            have c0 := cell_regrown z0
            clear z0 z1
            refine wp_region_below (by kernel_rfl) (by kernel_rfl) ?_
            repeat (go_big_quiet_step (first | (with_reducible exact k1 _ _)))
            refine wpQuiet_nil ?_
            intro wq hbq0
            have HBQ := Lib.hid hbq0
            clear hbq0 c0 c1 k1 hk1
            have HFIN := Lib.hid (HEND.out (by rw [HP.out]; exact HST.out hq))
            go_wp2
            go_roundw
            case rel => exact ⟨k + 1, by omega, by omega, by go_num, by rw [HSU.out, hR, ← HFIN.out]; exact HOj.out.below HBQ.out, HBj.out.trans (HBQ.out.mono (Nat.le_trans hbase HBj.out.size))⟩
            case measure => simp [intOf]; omega
          · have hr : cf x y < 0 := by rw [HBF.out] at hq; exact of_decide_eq_true hq
            generalize cf x y = r at *
            go_wp2_with fail
            have c1 := cell_regrown z1
            have c0 := cell_regrown z0
            clear z0 z1
            refine wp_region_below (by kernel_rfl) (by kernel_rfl) ?_
            repeat (go_big_quiet_step (first | (with_reducible exact k1 _ _)))
            refine wpQuiet_nil ?_
            intro wq hbq0
            have HBQ := Lib.hid hbq0
            clear hbq0 c0 c1 k1 hk1
            have O2 := HOj.out.below HBQ.out
            have HB2 := Lib.hid (HBj.out.trans (HBQ.out.mono (Nat.le_trans hbase HBj.out.size)))
            obtain ⟨hxc, hfz⟩ := O2.at1 hlM (by omega)
            have z1 := hxc (j + 1) (by omega)
            have z0 := hxc j (by omega)
            rw [HMA.out] at z1
            rw [HPR.out] at z0
            have f1 := hfz (j + 1)
            have f0 := hfz j
            have O3 := (O2.set_ hlM (j + 1) y).1
            have hlM2 : ((midR S x rest (j + 1)).set (j + 1) y).length = n := by rw [List.length_set]; exact hlM
            have O4 := Lib.hid (O3.set_ hlM2 j x).1
            rw [HSW.out] at O4
            have HB4 := Lib.hid ((HB2.out.setCell (p := ⟨g, j + 1, none⟩) hg.1 (.int .i64 y)).setCell (p := ⟨g, j, none⟩) hg.1 (.int .i64 x))
            have HPN := HGO.out hq
            clear O2 O3 hxc hfz
            go_wp2_with fail
            have hwj : IntKind.i64.wrap ((j : Nat) : Int) = (j : Int) := by rw [IntWalk.i64_left]; exact wrap64_nat j (by omega)
            have hjn : j < n := by omega
            have hjn1 : j + 1 < n := by omega
            have hjn2 : (j : Int) + 1 < (n : Int) := by omega
            have hjn3 : (0 : Int) ≤ (j : Int) + 1 := by omega
            go_region_law (fail)
            all_goals
              have HO5 : Hid (Own ((wq.setCell ⟨g, j + 1, none⟩ (.int .i64 y)).setCell ⟨g, j, none⟩ (.int .i64 x)).drew base (.slice (some ⟨g, 0, none⟩) n c) (midR S x rest j)) := O4.out
              have HB5 : Hid (Below base w ((wq.setCell ⟨g, j + 1, none⟩ (.int .i64 y)).setCell ⟨g, j, none⟩ (.int .i64 x)).drew) := ⟨HB4.out.os, HB4.out.tape, HB4.out.output, HB4.out.size, HB4.out.block⟩
              have HPJ : Hid (posR bef x S k = posR bef x S j) := HP.out.trans HPN
              clear z1 z0 f1 f0 hwj hjn hjn1 hjn2 hjn3
              generalize ((wq.setCell ⟨g, j + 1, none⟩ (.int .i64 y)).setCell ⟨g, j, none⟩ (.int .i64 x)).drew = w9 at HO5 HB5 ⊢
              go_wp2
              go_roundw
              case rel => exact ⟨j, by omega, by go_num, HO5.out, HPJ.out, HB5.out⟩
              case measure => simp [intOf]
    · obtain rfl : n = k := by omega
      have e1 : L.take n = L := List.take_of_length_le (by rw [HL.out]; exact Nat.le_refl _)
      have e2 : L.drop n = [] := List.drop_eq_nil_of_le (by rw [HL.out]; exact Nat.le_refl _)
      rw [e1, e2, List.append_nil] at HO
      go_wp2
      go_end0
      exact ⟨rfl, HO.out, HB.out⟩
end Go.Proofs.YthoodjjjklbggaaGreatDoor

