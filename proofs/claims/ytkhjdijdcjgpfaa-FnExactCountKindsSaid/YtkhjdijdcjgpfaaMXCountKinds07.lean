/- Texts put together: SortI, Idx, WayOn. -/
import Derived.Test.YtkhjdijdcjgpfaaMXCountKinds01
import Derived.Test.YtkhjdijdcjgpfaaMXCountKinds02
import Derived.Deep.RegionLaw
import Derived.Test.YtkhjdijdcjgpfaaMXCountKinds05
import Derived.Lib.SliceRun
namespace Go.Proofs.Ytkhjdijdcjgpfaa
open Go.RowKit Go.Sort
set_option maxRecDepth 100000

/-- from the right: how far x goes -/
def posR (bef : Int → Int → Bool) (x : Int) (S : List Int) : Nat → Nat
  | 0 => 0
  | k + 1 => if bef x (S.getD k 0) = true then posR bef x S k else k + 1
def insR (bef : Int → Int → Bool) (S : List Int) (x : Int) : List Int := S.take (posR bef x S S.length) ++ x :: S.drop (posR bef x S S.length)
def sortR (bef : Int → Int → Bool) (L : List Int) : List Int := L.foldl (insR bef) []
theorem posR_le (bef : Int → Int → Bool) (x : Int) (S : List Int) (k : Nat) : posR bef x S k ≤ k := by
  induction k with
  | zero => exact Nat.le_refl _
  | succ k ih =>
    simp only [posR]
    split <;> omega
theorem posR_go {bef : Int → Int → Bool} {x : Int} {S : List Int} {k : Nat} (h : bef x (S.getD k 0) = true) : posR bef x S (k + 1) = posR bef x S k := by simp only [posR, h, if_true]
theorem posR_stop {bef : Int → Int → Bool} {x : Int} {S : List Int} {k : Nat} (h : bef x (S.getD k 0) = false) : posR bef x S (k + 1) = k + 1 := by simp only [posR, h]; rfl
theorem insR_len (bef : Int → Int → Bool) (S : List Int) (x : Int) : (insR bef S x).length = S.length + 1 := by
  have := posR_le bef x S S.length
  unfold insR
  simp; omega
theorem sortR_succ (bef : Int → Int → Bool) (L : List Int) {i : Nat} (h : i < L.length) : sortR bef (L.take (i + 1)) = insR bef (sortR bef (L.take i)) (L.getD i 0) := by
  unfold sortR
  rw [List.take_succ_eq_append_getElem h, List.foldl_append, show L.getD i 0 = L[i] by simp [h]]
  rfl
theorem sortR_len (bef : Int → Int → Bool) (L : List Int) {i : Nat} (h : i ≤ L.length) : (sortR bef (L.take i)).length = i := by
  induction i with
  | zero => rfl
  | succ i ih => rw [sortR_succ bef L (by omega), insR_len, ih (by omega)]
/-- the row while x is on its way: it stands at j -/
def midR (S : List Int) (x : Int) (rest : List Int) (j : Nat) : List Int := S.take j ++ x :: S.drop j ++ rest
theorem midR_len (S : List Int) (x : Int) (rest : List Int) (j : Nat) (h : j ≤ S.length) : (midR S x rest j).length = S.length + 1 + rest.length := by
  unfold midR; simp; omega
theorem midR_at (S : List Int) (x : Int) (rest : List Int) (j : Nat) (h : j ≤ S.length) : (midR S x rest j).getD j 0 = x := by
  unfold midR
  have hl : (S.take j).length = j := by rw [List.length_take]; omega
  rw [List.append_assoc, List.getD_eq_getElem?_getD, List.getElem?_append_right (by omega), hl, Nat.sub_self]
  rfl
theorem midR_prev (S : List Int) (x : Int) (rest : List Int) (j : Nat) (h : j + 1 ≤ S.length) : (midR S x rest (j + 1)).getD j 0 = S.getD j 0 := by
  unfold midR
  have hl : (S.take (j + 1)).length = j + 1 := by rw [List.length_take]; omega
  rw [List.append_assoc, List.getD_eq_getElem?_getD, List.getElem?_append_left (by omega), List.getElem?_take, if_pos (by omega), ← List.getD_eq_getElem?_getD]
theorem midR_swap (S : List Int) (x : Int) (rest : List Int) (j : Nat) (h : j + 1 ≤ S.length) : ((midR S x rest (j + 1)).set (j + 1) (S.getD j 0)).set j x = midR S x rest j := by
  have e1 : S.take (j + 1) = S.take j ++ [S.getD j 0] := by
    rw [List.take_succ_eq_append_getElem (by omega), show S.getD j 0 = S[j] by simp [show j < S.length by omega]]
  have e2 : S.drop j = S.getD j 0 :: S.drop (j + 1) := by
    rw [List.drop_eq_getElem_cons (by omega : j < S.length), show S.getD j 0 = S[j] by simp [show j < S.length by omega]]
  have hlj : (S.take j).length = j := by rw [List.length_take]; omega
  unfold midR
  rw [e1, e2]
  generalize S.getD j 0 = y
  generalize S.take j = P at *
  simp only [List.append_assoc, List.cons_append, List.nil_append]
  rw [List.set_append_right _ _ (by omega), hlj, show j + 1 - j = 1 by omega, List.set_cons_succ, List.set_cons_zero, List.set_append_right _ _ (by omega), hlj, Nat.sub_self, List.set_cons_zero]
theorem midR_start (S : List Int) (x : Int) (rest : List Int) : midR S x rest S.length = S ++ x :: rest := by
  unfold midR; simp
theorem midR_end (bef : Int → Int → Bool) (S : List Int) (x : Int) (rest : List Int) (j : Nat) (h : posR bef x S S.length = j) : midR S x rest j = insR bef S x ++ rest := by
  unfold midR insR; rw [h]
theorem mem_insR {bef : Int → Int → Bool} {S : List Int} {x y : Int} (h : y ∈ insR bef S x) : y = x ∨ y ∈ S := by
  unfold insR at h
  rw [List.mem_append, List.mem_cons] at h
  rcases h with h | h | h
  · exact .inr (List.mem_of_mem_take h)
  · exact .inl h
  · exact .inr (List.mem_of_mem_drop h)
theorem mem_sortR {bef : Int → Int → Bool} {L : List Int} {y : Int} {i : Nat} (hi : i ≤ L.length) (h : y ∈ sortR bef (L.take i)) : y ∈ L := by
  induction i with
  | zero => simp [sortR] at h
  | succ i ih =>
    rw [sortR_succ bef L (by omega)] at h
    rcases mem_insR h with rfl | h
    · rw [show L.getD i 0 = L[i] by simp [show i < L.length by omega]]; exact List.getElem_mem _
    · exact ih (by omega) h
theorem drop_eq' {L : List Int} {k : Nat} (h : k < L.length) : L.drop k = L.getD k 0 :: L.drop (k + 1) := by
  rw [List.drop_eq_getElem_cons h, show L.getD k 0 = L[k] by simp [h]]
theorem getD_memI {L : List Int} {i : Nat} (h : i < L.length) : L.getD i 0 ∈ L := by
  rw [show L.getD i 0 = L[i] by simp [h]]; exact List.getElem_mem h
theorem sortR_one (bef : Int → Int → Bool) (L : List Int) (h : 1 ≤ L.length) : sortR bef (L.take 1) ++ L.drop 1 = L := by
  cases L with
  | nil => simp at h
  | cons x L => simp [sortR, insR, posR]
set_option maxHeartbeats 4000000 in
theorem insSort_any (F : FuncId) (caps : Array Value) (hE : Enters F) (cf : Int → Int → Int) (L : List Int) (n base g c : Nat) (w : World) (hl : L.length = n) (hn : n ≤ 40) (hc : c ≤ 4611686018427387904) (hnc : n ≤ c) (h1 : 1 ≤ n) (hbase : base ≤ w.heap.size)
    (h : Own w base (.slice (some ⟨g, 0, none⟩) n c) L)
    (hf : ∀ x ∈ L, ∀ y ∈ L, ∀ w', Below base w w' → Calls Try.prog F (#[.int .i64 x, .int .i64 y] ++ caps) w' fun e w'' => e = .returned (.int .i64 (cf x y)) ∧ Below w'.heap.size w' w'') :
    Calls Try.prog 142 #[.slice (some ⟨g, 0, none⟩) n c, .int .i64 0, .int .i64 n, .func (.func F) #[] caps] w fun e w' => e = .returned (.tuple #[]) ∧ Own w' base (.slice (some ⟨g, 0, none⟩) n c) (sortR (fun x y => decide (cf x y < 0)) L) ∧ Below base w w' := by
  have HF := Lib.hid hf
  clear hf
  have hE' : ∀ (args : Array Value) (W : World), (callFunc F args).run Try.prog W = .ok (.enter F args) W := hE
  have hg := (h.lt g rfl)
  have HO0 := Lib.hid h
  have HL := Lib.hid hl
  clear h hl
  generalize hbef : (fun x y => decide (cf x y < 0)) = bef at *
  have HBEF : Hid (∀ x y, bef x y = decide (cf x y < 0)) := fun x y => by rw [← hbef]
  clear hbef
  go_enter Try.func142, Try.ntmps142
  go_wp2
  go_loopw [8] (fun i wr => ∃ k : Nat, 1 ≤ k ∧ k ≤ n ∧ i = .int .i64 k ∧ Own wr base (.slice (some ⟨g, 0, none⟩) n c) (sortR bef (L.take k) ++ L.drop k) ∧ Below base w wr) (fun i _ => n - (intOf i).toNat)
  case atStart => exact ⟨1, by omega, h1, by go_num, by rw [sortR_one bef L (by rw [HL.out]; exact h1)]; exact HO0.out, (Below.refl _ _).mono hbase⟩
  case round =>
    obtain ⟨wo, rfl⟩ : ∃ x, x = wr := ⟨_, rfl⟩
    obtain ⟨k, hk1, hk, rfl, ho, hb⟩ := hrel
    have HO := Lib.hid ho
    have HB := Lib.hid hb
    clear ho hb
    by_cases hlt : k < n
    · go_wp2
      go_loopw [9] (fun i wr => ∃ j : Nat, j ≤ k ∧ i = .int .i64 j ∧ Own wr base (.slice (some ⟨g, 0, none⟩) n c) (midR (sortR bef (L.take k)) (L.getD k 0) (L.drop (k + 1)) j) ∧ Hid (posR bef (L.getD k 0) (sortR bef (L.take k)) k = posR bef (L.getD k 0) (sortR bef (L.take k)) j) ∧ Below base w wr) (fun i _ => (intOf i).toNat)
      case atStart => exact ⟨k, by omega, rfl, by
        have e := midR_start (sortR bef (L.take k)) (L.getD k 0) (L.drop (k + 1))
        rw [sortR_len bef L (by rw [HL.out]; omega)] at e
        rw [e, ← drop_eq' (by rw [HL.out]; exact hlt)]; exact HO.out, rfl, HB.out⟩
      case round =>
        obtain ⟨j, hj, rfl, ho, HP, hb⟩ := hrel
        have HOj := Lib.hid ho
        have HBj := Lib.hid hb
        have hSl := sortR_len bef L (i := k) (by rw [HL.out]; omega)
        have HMA := Lib.hid (midR_at (sortR bef (L.take k)) (L.getD k 0) (L.drop (k + 1)) j (by omega))
        have HML := Lib.hid (midR_len (sortR bef (L.take k)) (L.getD k 0) (L.drop (k + 1)) j (by omega))
        clear ho hb
        rcases Nat.eq_zero_or_pos j with rfl | hj0
        · go_wp2_with fail
          refine wp_region_below (by kernel_rfl) (by kernel_rfl) ?_
          repeat (go_big_quiet_step (first | (with_reducible fail)))
          refine wpQuiet_nil ?_
          intro wq hbq0
          have HBQ := Lib.hid hbq0
          clear hbq0
          have hpos : posR bef (L.getD k 0) (sortR bef (L.take k)) (sortR bef (L.take k)).length = 0 := by rw [hSl]; exact HP.out
          have HFIN := Lib.hid (midR_end bef (sortR bef (L.take k)) (L.getD k 0) (L.drop (k + 1)) 0 hpos)
          have HSU := Lib.hid (sortR_succ bef L (show k < L.length by rw [HL.out]; exact hlt))
          clear hpos
          go_wp2
          go_roundw
          case rel => exact ⟨k + 1, by omega, by omega, by go_num, by rw [HSU.out, ← HFIN.out]; exact HOj.out.below HBQ.out, HBj.out.trans (HBQ.out.mono (Nat.le_trans hbase HBj.out.size))⟩
          case measure => simp [intOf]; omega
        · obtain ⟨j, rfl⟩ : ∃ i, j = i + 1 := ⟨j - 1, by omega⟩
          have hx : L.getD k 0 ∈ L := getD_memI (by rw [HL.out]; exact hlt)
          have hy : (sortR bef (L.take k)).getD j 0 ∈ L := mem_sortR (i := k) (by rw [HL.out]; omega) (getD_memI (by omega))
          have HPR := Lib.hid (midR_prev (sortR bef (L.take k)) (L.getD k 0) (L.drop (k + 1)) j (by omega))
          have HSW := Lib.hid (midR_swap (sortR bef (L.take k)) (L.getD k 0) (L.drop (k + 1)) j (by omega))
          have HGO := Lib.hid (fun h => posR_go (bef := bef) (x := L.getD k 0) (S := sortR bef (L.take k)) (k := j) h)
          have HST := Lib.hid (fun h => posR_stop (bef := bef) (x := L.getD k 0) (S := sortR bef (L.take k)) (k := j) h)
          have HEND := Lib.hid (fun h => midR_end bef (sortR bef (L.take k)) (L.getD k 0) (L.drop (k + 1)) (j + 1) h)
          have HSU := Lib.hid (sortR_succ bef L (show k < L.length by rw [HL.out]; exact hlt))
          have HBF := Lib.hid (HBEF.out (L.getD k 0) ((sortR bef (L.take k)).getD j 0))
          have hlr : (L.drop (k + 1)).length = n - (k + 1) := by rw [List.length_drop, HL.out]
          rw [hSl, hlr] at HML
          have hlM : (midR (sortR bef (L.take k)) (L.getD k 0) (L.drop (k + 1)) (j + 1)).length = n := by rw [HML.out]; omega
          obtain ⟨hxc, hfz⟩ := HOj.out.at1 hlM (by omega)
          have z1 := hxc (j + 1) (by omega)
          have z0 := hxc j (by omega)
          rw [HMA.out] at z1
          rw [HPR.out] at z0
          have k1 := quiet_below (w := wr) (fun W hW => HF.out _ hx _ hy W (HBj.out.trans (hW.mono (Nat.le_trans hbase HBj.out.size))))
          rw [hSl] at HEND
          clear hx hy hxc hfz hlr
          generalize hS : sortR bef (L.take k) = S at *
          generalize hX : L.getD k 0 = x at *
          generalize hR : L.drop (k + 1) = rest at *
          generalize hY : S.getD j 0 = y at *
          have hk1 := k1 0 #[]
          rcases hq : bef x y with _ | _
          · have hr : ¬ cf x y < 0 := by rw [HBF.out] at hq; exact of_decide_eq_false hq
            generalize cf x y = r at *
            go_wp2_with fail
            have c1 := cell_regrown z1
            have c0 := cell_regrown z0
            clear z0 z1
            refine wp_region_below (by kernel_rfl) (by kernel_rfl) ?_
            repeat (go_big_quiet_step (first | (with_reducible exact k1 _ _)))
            refine wpQuiet_nil ?_
            intro wq hbq0
            have HBQ := Lib.hid hbq0
            clear hbq0 c0 c1 k1 hk1
            have HFIN := Lib.hid (HEND.out (by rw [HP.out]; exact HST.out hq))
            go_wp2
            go_roundw
            case rel => exact ⟨k + 1, by omega, by omega, by go_num, by rw [HSU.out, hR, ← HFIN.out]; exact HOj.out.below HBQ.out, HBj.out.trans (HBQ.out.mono (Nat.le_trans hbase HBj.out.size))⟩
            case measure => simp [intOf]; omega
          · have hr : cf x y < 0 := by rw [HBF.out] at hq; exact of_decide_eq_true hq
            generalize cf x y = r at *
            go_wp2_with fail
            have c1 := cell_regrown z1
            have c0 := cell_regrown z0
            clear z0 z1
            refine wp_region_below (by kernel_rfl) (by kernel_rfl) ?_
            repeat (go_big_quiet_step (first | (with_reducible exact k1 _ _)))
            refine wpQuiet_nil ?_
            intro wq hbq0
            have HBQ := Lib.hid hbq0
            clear hbq0 c0 c1 k1 hk1
            have O2 := HOj.out.below HBQ.out
            have HB2 := Lib.hid (HBj.out.trans (HBQ.out.mono (Nat.le_trans hbase HBj.out.size)))
            obtain ⟨hxc, hfz⟩ := O2.at1 hlM (by omega)
            have z1 := hxc (j + 1) (by omega)
            have z0 := hxc j (by omega)
            rw [HMA.out] at z1
            rw [HPR.out] at z0
            have f1 := hfz (j + 1)
            have f0 := hfz j
            have O3 := (O2.set_ hlM (j + 1) y).1
            have hlM2 : ((midR S x rest (j + 1)).set (j + 1) y).length = n := by rw [List.length_set]; exact hlM
            have O4 := Lib.hid (O3.set_ hlM2 j x).1
            rw [HSW.out] at O4
            have HB4 := Lib.hid ((HB2.out.setCell (p := ⟨g, j + 1, none⟩) hg.1 (.int .i64 y)).setCell (p := ⟨g, j, none⟩) hg.1 (.int .i64 x))
            have HPN := HGO.out hq
            clear O2 O3 hxc hfz
            go_wp2_with fail
            have hwj : IntKind.i64.wrap ((j : Nat) : Int) = (j : Int) := by rw [IntWalk.i64_left]; exact wrap64_nat j (by omega)
            have hjn : j < n := by omega
            have hjn1 : j + 1 < n := by omega
            have hjn2 : (j : Int) + 1 < (n : Int) := by omega
            have hjn3 : (0 : Int) ≤ (j : Int) + 1 := by omega
            go_region_law (fail)
            all_goals
              have HO5 : Hid (Own ((wq.setCell ⟨g, j + 1, none⟩ (.int .i64 y)).setCell ⟨g, j, none⟩ (.int .i64 x)).drew base (.slice (some ⟨g, 0, none⟩) n c) (midR S x rest j)) := O4.out
              have HB5 : Hid (Below base w ((wq.setCell ⟨g, j + 1, none⟩ (.int .i64 y)).setCell ⟨g, j, none⟩ (.int .i64 x)).drew) := ⟨HB4.out.os, HB4.out.tape, HB4.out.output, HB4.out.size, HB4.out.block⟩
              have HPJ : Hid (posR bef x S k = posR bef x S j) := HP.out.trans HPN
              clear z1 z0 f1 f0 hwj hjn hjn1 hjn2 hjn3
              generalize ((wq.setCell ⟨g, j + 1, none⟩ (.int .i64 y)).setCell ⟨g, j, none⟩ (.int .i64 x)).drew = w9 at HO5 HB5 ⊢
              go_wp2
              go_roundw
              case rel => exact ⟨j, by omega, by go_num, HO5.out, HPJ.out, HB5.out⟩
              case measure => simp [intOf]
    · obtain rfl : n = k := by omega
      have e1 : L.take n = L := List.take_of_length_le (by rw [HL.out]; exact Nat.le_refl _)
      have e2 : L.drop n = [] := List.drop_eq_nil_of_le (by rw [HL.out]; exact Nat.le_refl _)
      rw [e1, e2, List.append_nil] at HO
      go_wp2
      go_end0
      exact ⟨rfl, HO.out, HB.out⟩
set_option maxHeartbeats 2000000 in
theorem stable_any (F : FuncId) (caps : Array Value) (hE : Enters F) (cf : Int → Int → Int) (L : List Int) (n base g c : Nat) (w : World) (hl : L.length = n) (hn : n < 20) (hc : c ≤ 4611686018427387904) (hnc : n ≤ c) (h1 : 1 ≤ n) (hbase : base ≤ w.heap.size)
    (h : Own w base (.slice (some ⟨g, 0, none⟩) n c) L)
    (hf : ∀ x ∈ L, ∀ y ∈ L, ∀ w', Below base w w' → Calls Try.prog F (#[.int .i64 x, .int .i64 y] ++ caps) w' fun e w'' => e = .returned (.int .i64 (cf x y)) ∧ Below w'.heap.size w' w'') :
    Calls Try.prog 141 #[.slice (some ⟨g, 0, none⟩) n c, .int .i64 n, .func (.func F) #[] caps] w fun e w' => e = .returned (.tuple #[]) ∧ Own w' base (.slice (some ⟨g, 0, none⟩) n c) (sortR (fun x y => decide (cf x y < 0)) L) ∧ Below base w w' := by
  have HI := Lib.hid (insSort_any F caps hE cf L n base g c w hl (by omega) hc hnc h1 hbase h hf)
  clear h hf
  go_enter Try.func141, Try.ntmps141
  go_wp2
  go_loopw [7, 8] (fun a b wr => a = .int .i64 0 ∧ b = .int .i64 20 ∧ wr = w) (fun _ _ _ => 0)
  case atStart => exact ⟨rfl, rfl, rfl⟩
  case round =>
    obtain ⟨rfl, rfl, rfl⟩ := hrel
    go_wp2_with fail
    refine HI.out.mono ?_
    rintro e w1 ⟨rfl, ho, hb⟩
    have HO := Lib.hid ho
    have HB := Lib.hid hb
    clear ho hb
    go_wp2
    go_loopw [6] (fun i wr => i = .int .i64 20 ∧ wr = w1) (fun _ _ => 0)
    case atStart => exact ⟨rfl, rfl⟩
    case round =>
      obtain ⟨rfl, rfl⟩ := hrel
      go_wp2
      go_end0
      exact ⟨rfl, HO.out, HB.out⟩
theorem sortStable_any (F : FuncId) (caps : Array Value) (hE : Enters F) (cf : Int → Int → Int) (L : List Int) (n base g c : Nat) (w : World) (hl : L.length = n) (hn : n < 20) (hc : c ≤ 4611686018427387904) (hnc : n ≤ c) (h1 : 1 ≤ n) (hbase : base ≤ w.heap.size)
    (h : Own w base (.slice (some ⟨g, 0, none⟩) n c) L)
    (hf : ∀ x ∈ L, ∀ y ∈ L, ∀ w', Below base w w' → Calls Try.prog F (#[.int .i64 x, .int .i64 y] ++ caps) w' fun e w'' => e = .returned (.int .i64 (cf x y)) ∧ Below w'.heap.size w' w'') :
    Calls Try.prog 135 #[.slice (some ⟨g, 0, none⟩) n c, .func (.func F) #[] caps] w fun e w' => e = .returned (.tuple #[]) ∧ Own w' base (.slice (some ⟨g, 0, none⟩) n c) (sortR (fun x y => decide (cf x y < 0)) L) ∧ Below base w w' := by
  have HI := Lib.hid (stable_any F caps hE cf L n base g c w hl hn hc hnc h1 hbase h hf)
  clear h hf
  go_enter Try.func135, Try.ntmps135
  go_wp2_with fail
  refine HI.out.mono ?_
  rintro e w1 ⟨rfl, ho, hb⟩
  have HO := Lib.hid ho
  have HB := Lib.hid hb
  clear ho hb
  go_wp2
  go_end0
  exact ⟨rfl, HO.out, HB.out⟩
end Go.Proofs.Ytkhjdijdcjgpfaa

namespace Go.Proofs.Ytkhjdijdcjgpfaa
open Go.RowKit Go.Sort
set_option maxRecDepth 100000

def idxL (n : Nat) : List Int := (List.range n).map fun (a : Nat) => (a : Int)
theorem idxL_len (n : Nat) : (idxL n).length = n := by simp [idxL]
theorem idxL_at {n a : Nat} (h : a < n) : (idxL n).getD a 0 = a := by simp [idxL, h]
theorem idxL_mem {n : Nat} {x : Int} (h : x ∈ idxL n) : ∃ a : Nat, a < n ∧ x = a := by
  unfold idxL at h
  rw [List.mem_map] at h
  obtain ⟨a, ha, e⟩ := h
  exact ⟨a, List.mem_range.1 ha, e.symm⟩
set_option maxHeartbeats 2000000 in
theorem indices_any (n : Nat) (hn : n ≤ 1000) (w : World) (h1 : 1 ≤ n) :
    Calls Try.prog 63 #[.int .i64 n] w fun e w' => e = .returned (.slice (some ⟨w.heap.size, 0, none⟩) n n) ∧ Own w' w.heap.size (.slice (some ⟨w.heap.size, 0, none⟩) n n) (idxL n) ∧ Below w.heap.size w w' := by
  obtain ⟨i0, hi, hz0, hz1, hz2⟩ := info_parts i64_info
  go_enter Try.func63, Try.ntmps63
  go_wp2_with (at_make; refine wpList_make_full _ rfl _ _ 23 rfl w.heap.size 3 i0 (.int .i64 0) 1 Try.underlying23 hi hz0 hz1 _ _ _ _ n rfl rfl rfl rfl (by rw [hz2]; omega) (by unfold maxLen; omega) (Nat.le_refl _) ?_; intro w1 hown hg1; have HB1 := Lib.hid ((Below.refl w.heap.size w).grown hg1 (Nat.le_refl _) (by simp)); have HOWN := Lib.hid hown; clear hown hg1)
  have HO1 : Hid (Own w1 w.heap.size (.slice (some ⟨w.heap.size, 0, none⟩) n n) (List.replicate n 0)) := by
    have ho := HOWN.out
    rw [ints_made'] at ho
    unfold Hid Own
    rw [List.length_replicate]
    exact ho
  clear HOWN
  go_loopw [9] (fun i wr => ∃ (k : Nat) (N : List Int), k ≤ n ∧ i = .int .i64 k ∧ N.length = n ∧ Own wr w.heap.size (.slice (some ⟨w.heap.size, 0, none⟩) n n) N ∧ Hid (∀ i, i < k → N.getD i 0 = (i : Int)) ∧ Below w.heap.size w wr) (fun i _ => n - (intOf i).toNat)
  case atStart => exact ⟨0, _, by omega, rfl, by simp, HO1.out, fun i hi => absurd hi (by omega), HB1.out⟩
  case round =>
    obtain ⟨k, N, hk, rfl, hNl, ho, HP, hb⟩ := hrel
    have HO := Lib.hid ho
    have HB := Lib.hid hb
    clear ho hb
    by_cases hlt : k < n
    · obtain ⟨hx, hf⟩ := HO.out.at1 hNl (by omega)
      have zk := hx k hlt
      have fk := hf k
      have HO3 := Lib.hid (HO.out.set_ hNl k (k : Int)).1
      have HB3 := Lib.hid (HB.out.setCell (p := ⟨w.heap.size, k, none⟩) (Nat.le_refl _) (.int .i64 k))
      clear hx hf
      go_wp2
      go_roundw
      case rel =>
        refine ⟨k + 1, N.set k k, by omega, by go_num, by simp [hNl], HO3.out, fun i hi => ?_, HB3.out⟩
        by_cases hik : i = k
        · subst hik; rw [getD_set_same _ (by omega)]
        · rw [getD_set_other _ (Ne.symm hik)]; exact HP.out i (by omega)
      case measure => simp [intOf]; omega
    · obtain rfl : n = k := by omega
      have HE : Hid (N = idxL n) := list_ext0 hNl (idxL_len n) fun i hi => by rw [HP.out i hi, idxL_at hi]
      go_wp2
      go_ret
      exact ⟨rfl, by rw [← HE.out]; exact HO.out, HB.out⟩
end Go.Proofs.Ytkhjdijdcjgpfaa

namespace Go.Proofs.Ytkhjdijdcjgpfaa
open Go.RowKit Go.Sort
set_option maxRecDepth 100000
theorem run_neq_slice_nil {P : Program} (w : World) (t e : TypeId) (a : Option Addr) (n c n' c' : Nat) (h : P.underlying t = some (.slice e)) :
    (binOp .neq t (.slice a n c) (.slice none n' c')).run P w = .ok (.bool (!a.isNone)) w := by
  simp only [binOp]
  simp [Op.equal, Op.maxDepth, Lib.run_equalIn_slice_nil w 9999 t e a n c n' c' h]
theorem grown_new {a b c : World} {row row' : Option Nat} (h : a.grownBy b row) (k : b.grownBy c row') (hn : ∀ g, row' = some g → a.heap.size ≤ g ∨ some g = row) : a.grownBy c row :=
  ⟨k.os.trans h.os, k.tape.trans h.tape, k.output.trans h.output, Nat.le_trans h.size k.size, fun i hi hne => (k.block i (Nat.lt_of_lt_of_le hi h.size) (fun e => by
    rcases hn i e.symm with h1 | h1
    · omega
    · exact hne h1)).trans (h.block i hi hne)⟩
theorem grown_below {a b : World} (h : Below a.heap.size a b) (row : Option Nat) : a.grownBy b row := ⟨h.os, h.tape, h.output, h.size, fun i hi _ => h.block i hi⟩
theorem below_of_grown {C a b : World} {row : Option Nat} (h : Below C.heap.size C a) (k : a.grownBy b row) (hr : ∀ g, row = some g → C.heap.size ≤ g) : Below C.heap.size C b := h.grown k h.size hr
theorem memN_at' {S n b : Nat} (h : b ∈ memN S n) : b < n := (mem_memN.1 h).1
theorem cell_new1 (w : World) (x : Value) (t : TypeId) : (w.alloc (.cells #[x] t)).cell? ⟨w.heap.size, 0, none⟩ = some x := by simp
theorem ne5 {W : World} {B g g5 q l c c5 : Nat} (hB : B < W.heap.size) (hg : B ≠ g) (hat : Value.slice (some ⟨g, 0, none⟩) q c = .slice (some ⟨g5, 0, none⟩) l c5 ∨ g5 = W.heap.size) : some B ≠ (Value.slice (some ⟨g5, 0, none⟩) (l + 1) c5).ownBlock := by
  intro h
  injection h with h
  have h : B = g5 := h
  rcases hat with e | e
  · injection e with e1 _ _
    injection e1 with e1
    injection e1 with e1 _ _
    omega
  · omega
def WantP (F : FuncId) (caps : Array Value) (want : List Nat → Bool) (k n : Nat) (wC : World) : Prop :=
  ∀ (way : List Nat) (v : Value) (W : World), way.length = k → (∀ x ∈ way, x < n) → Below wC.heap.size wC W → Rd W v (nI way) →
    Calls Try.prog F (#[v] ++ caps) W fun e w'' => e = .returned (.bool (want way)) ∧ Below W.heap.size W w''
def WayPost (xs : List Int) (want : List Nat → Bool) (k m : Nat) (way : List Nat) (base : Nat) (v : Value) (w : World) (e : Ending) (w' : World) : Prop :=
  ∃ v', e = .returned v' ∧ (∀ L, dfs xs xs.length want m way = some L → (∃ g c, v' = .slice (some ⟨g, 0, none⟩) k c) ∧ Own w' w.heap.size v' (nI L)) ∧ (dfs xs xs.length want m way = none → v' = .slice none 0 0) ∧
    w.grownBy w' v.ownBlock ∧ Own w' base v (nI way)
set_option maxHeartbeats 1000000 in
theorem wayOn_zero (s : Int) (sl : Value) (xs : List Int) (F : FuncId) (caps : Array Value) (hE : Enters F) (want : List Nat → Bool) (k : Nat) (wC : World) (hf : WantP F caps want k xs.length wC) (hk : 1 ≤ k ∧ k ≤ 8)
    (way : List Nat) (base : Nat) (v : Value) (w : World) (hb : Below wC.heap.size wC w) (ho : Own w base v (nI way)) (hl : way.length = k) (hx : ∀ x ∈ way, x < xs.length) :
    Calls Try.prog 83 #[.agg #[.int .i64 s, sl], v, .int .i64 k, .func (.func F) #[] caps] w (WayPost xs want k 0 way base v w) := by
  obtain ⟨g, c, rfl, hbg, hc, hkc, -, -⟩ := ho.at_ (n := k) (by rw [nI_len, hl]) hk.1
  have HO := Lib.hid ho
  have HF := Lib.hid hf
  have HB := Lib.hid hb
  have HX := Lib.hid hx
  have HL := Lib.hid hl
  clear ho hf hb hx hl
  have hE' : ∀ (args : Array Value) (W : World), (callFunc F args).run Try.prog W = .ok (.enter F args) W := hE
  have hD : Hid (dfs xs xs.length want 0 way = if want way = true then some way else none) := rfl
  unfold maxLen at hc
  go_enter Try.func83, Try.ntmps83
  go_wp2_with fail
  have HB0 := Lib.hid (below_alloc1 w (.cells #[.int .i64 s, sl] 25))
  generalize w.alloc (.cells #[.int .i64 s, sl] 25) = w0 at *
  go_wp2_with fail
  refine (HF.out way _ w0 HL.out HX.out (Below.then HB.out HB0.out) (HO.out.rd.below HB0.out)).mono ?_
  rintro e w1 ⟨rfl, hb1⟩
  have HB1 := Lib.hid (Below.then HB0.out hb1)
  have HO1 := Lib.hid (HO.out.below HB1.out)
  clear hb1 HB0
  rcases q : want way with _ | _
  · rw [q] at hD
    go_wp2
    go_ret
    exact ⟨.slice none 0 0, rfl, fun L h => by (rw [hD.out] at h; cases h), fun _ => rfl, grown_below HB1.out _, HO1.out⟩
  · rw [q] at hD
    go_wp2_with fail
    refine (clone_any _ (nI way) w1 HO1.out.rd (by rw [nI_len, HL.out]; exact hk.1) (by rw [nI_len, HL.out]; omega)).mono ?_
    rintro e w2 ⟨v2, rfl, ho2, hb2⟩
    obtain ⟨g2, c2, rfl, -, -, -, -, -⟩ := ho2.at_ (n := k) (by rw [nI_len, HL.out]) hk.1
    have HO2 := Lib.hid (ho2.mono HB1.out.size)
    have HB2 := Lib.hid (Below.then HB1.out hb2)
    have HO3 := Lib.hid (HO.out.below HB2.out)
    clear ho2 hb2
    go_wp2
    go_ret
    refine ⟨.slice (some ⟨g2, 0, none⟩) k c2, rfl, fun L h => ?_, fun h => ?_, grown_below HB2.out _, HO3.out⟩
    · rw [hD.out] at h
      injection h with h
      subst h
      exact ⟨⟨_, _, rfl⟩, HO2.out⟩
    · rw [hD.out] at h; cases h
set_option maxHeartbeats 4000000 in
theorem wayOn_any (s : Int) (sl : Value) (xs : List Int) (hp : tourP s xs) (F : FuncId) (caps : Array Value) (hE : Enters F) (want : List Nat → Bool) (k : Nat) (wC : World) (hR : Rd wC sl xs) (hf : WantP F caps want k xs.length wC) (hk : 1 ≤ k ∧ k ≤ 8) (m : Nat) :
    ∀ (way : List Nat) (base : Nat) (v : Value) (w : World), Below wC.heap.size wC w → wC.heap.size ≤ base → base ≤ w.heap.size → Own w base v (nI way) → 0 < way.length → way.length + m = k → (∀ x ∈ way, x < xs.length) →
    Calls Try.prog 83 #[.agg #[.int .i64 s, sl], v, .int .i64 k, .func (.func F) #[] caps] w (WayPost xs want k m way base v w) := by
  induction m with
  | zero =>
    intro way base v w hb _ _ ho h0 hl hx
    exact wayOn_zero s sl xs F caps hE want k wC hf hk way base v w hb ho hl hx
  | succ m ih =>
    intro way base v w hb hbC hbw ho h0 hl hx
    have IH := Lib.hid ih
    clear ih
    obtain ⟨q, hpl⟩ : ∃ q, way.length = q := ⟨_, rfl⟩
    obtain ⟨p, hpq⟩ : ∃ p, q = p + 1 := ⟨q - 1, by omega⟩
    have hpq1 : p < q := by omega
    obtain ⟨g, c, rfl, hbg, hc, hkc, hcell, -⟩ := ho.at_ (n := q) (by rw [nI_len, hpl]) (by omega)
    have hlastc := hcell p (by omega)
    rw [nI_getD (by omega)] at hlastc
    have hgw := (ho.lt g rfl).2
    obtain ⟨gt, off, ct, rfl, hmt, hgt, hxt⟩ := tour_cells hR hp
    have hlt : way.getD p 0 < xs.length := hx _ (by rw [getD_nat (by omega)]; exact List.getElem_mem _)
    have hwin := (hb.cell (p := ⟨gt, off + way.getD p 0, none⟩) hgt).trans (hxt _ hlt)
    have hgtw : gt < w.heap.size := Nat.lt_of_lt_of_le hgt hb.size
    have hW := (tour_wins hp hlt).2.1
    have hs := hp.1
    have hsl := hp.2.1
    have HXT := Lib.hid hxt
    have HO := Lib.hid ho
    have HB := Lib.hid hb
    have HX := Lib.hid hx
    have HL := Lib.hid hl
    have HP := Lib.hid hpl
    have hD : Hid (dfs xs xs.length want (m + 1) way = (cand xs xs.length way).findSome? fun b => dfs xs xs.length want m (way ++ [b])) := rfl
    have hC : Hid (cand xs xs.length way = memN (less (winsN xs (way.getD p 0)) (setW way)) xs.length) := by
      unfold Hid cand lastN; rw [memN_lessW, hpl, hpq]; rfl
    have HR := Lib.hid hR
    have hWw := setW_lt hx
    clear ho hb hx hcell hxt hp hR
    unfold maxLen at hc hmt
    have hpk : q < k := by omega
    generalize hn : xs.length = n at *
    obtain rfl : s = n := by omega
    rw [show ((n : Int)).toNat = n from rfl] at hW
    have hn8 : n ≤ 8 := by omega
    have hp8 := pow_le hn8
    generalize hlw : way.getD p 0 = last at *
    have hand := i64_andNot_nat (winsN xs last) (setW way) (by omega) (by omega)
    have hSW : less (winsN xs last) (setW way) < 2 ^ n := less_lt hW
    have hidx : IntKind.i64.wrap ((q : Int) - 1) = p := by rw [show (q : Int) - 1 = p by omega]; rw [IntKind.wrap_i64]; omega
    have i1 : (0 : Int) ≤ p := by omega
    have i2 : (p : Int) < q := by omega
    have i3 : (0 : Int) ≤ last := by omega
    have i4 : (last : Int) < n := by omega
    clear hpq
    have HN := Lib.hid hn
    have hq : (q == k) = false := by simp; omega
    clear hn hl hpl
    go_enter Try.func83, Try.ntmps83
    go_wp2_with fail
    have b0 := below_alloc1 w (.cells #[.int .i64 n, .slice (some ⟨gt, off, none⟩) n ct] 25)
    have x0 := TBox.new w n (.slice (some ⟨gt, off, none⟩) n ct) 25
    generalize w.alloc (.cells #[.int .i64 n, .slice (some ⟨gt, off, none⟩) n ct] 25) = w0 at *
    have HX0 := Lib.hid x0
    have HB0 := Lib.hid b0
    clear x0 b0
    have y0_0 := HX0.out.1
    have y1_0 := HX0.out.2
    have hlast0 := (HB0.out.cell (p := ⟨g, p, none⟩) hgw).trans hlastc
    have hwin0 := (HB0.out.cell (p := ⟨gt, off + last, none⟩) hgtw).trans hwin
    have hsz0 := HB0.out.size
    have HRD := Lib.hid (show Rd w0.drew (.slice (some ⟨g, 0, none⟩) q c) (nI way) from (HO.out.below HB0.out).rd)
    have HDX := Lib.hid (show TBox w0.drew w.heap.size n (.slice (some ⟨gt, off, none⟩) n ct) from HX0.out)
    have HDB := Lib.hid (show Below w.heap.size w w0.drew from ⟨HB0.out.os, HB0.out.tape, HB0.out.output, HB0.out.size, HB0.out.block⟩)
    have hlastd : w0.drew.cell? ⟨g, p, none⟩ = some (.int .i64 (last : Nat)) := hlast0
    have hwind : w0.drew.cell? ⟨gt, off + last, none⟩ = some (.int .i64 (winsN xs last : Nat)) := hwin0
    have hszd : w.heap.size ≤ w0.drew.heap.size := hsz0
    have HX8 := Lib.hid (fun x hx => show x < 8 from by have := HX.out x hx; omega)
    clear hlastc hwin
    go_wp2_with fail
    go_region_held3 (fun W => W.cell? ⟨w.heap.size, 1, none⟩ = some (.slice (some ⟨gt, off, none⟩) n ct) ∧ W.cell? ⟨g, p, none⟩ = some (.int .i64 (last : Nat)) ∧ W.cell? ⟨gt, off + last, none⟩ = some (.int .i64 (winsN xs last : Nat)))
      (first | exact ⟨y1_0, hlast0, hwin0⟩ | exact ⟨y1_2, hlast2, hwin2⟩)
      (first
        | (go_at_call 106; refine (isetOf_any _ way w0.drew HRD.out HX8.out).mono ?_; rintro e wz ⟨rfl, rfl⟩)
        | (go_at_call 69; refine (membersOf_any (less (winsN xs last) (setW way)) n w0.drew hSW (by omega)).mono ?_; rintro e w2 ⟨v2, rfl, ho2, hb2⟩; have HB2 := Lib.hid (Below.then HDB.out hb2); have HO2 := Lib.hid (ho2.mono HDB.out.size); have hlast2 := (hb2.cell (p := ⟨g, p, none⟩) (Nat.lt_of_lt_of_le hgw hszd)).trans hlastd; have hwin2 := (hb2.cell (p := ⟨gt, off + last, none⟩) (Nat.lt_of_lt_of_le hgtw hszd)).trans hwind; have HX2 := Lib.hid (HDX.out.below hb2); have y1_2 := HX2.out.2; obtain ⟨A2, d2, rfl, hd1, hd2, hl2⟩ := memL_cells ho2; clear hb2 ho2))
    have qT : ∀ (w : World) (a : Option Addr) (n c n' c' : Nat), (binOp .neq 23 (.slice a n c) (.slice none n' c')).run Try.prog w = .ok (.bool (!a.isNone)) w := fun w a n c n' c' => run_neq_slice_nil w _ _ a n c n' c' Try.underlying23
    unfold maxLen at hd1
    have HLC := Lib.hid hl2
    have HBX := Lib.hid (fun (g2 off2 : Nat) (h : A2 = some ⟨g2, off2, none⟩) => (HO2.out.lt g2 (by rw [h]; rfl)).1)
    have HLT := Lib.hid (fun b (h : b ∈ memN (less (winsN xs last) (setW way)) n) => (memN_at' h))
    have HC2 : Hid (cand xs n way = memN (less (winsN xs last) (setW way)) n) := hC
    have hmn := memN_len (less (winsN xs last) (setW way)) n
    have HDF : Hid (dfs xs n want (m + 1) way = (cand xs n way).findSome? fun b => dfs xs n want m (way ++ [b])) := hD
    clear hl2 hC hD hlast2 hwin2 hlast0 hwin0 hlastd hwind y1_2 y0_0 y1_0
    generalize memN (less (winsN xs last) (setW way)) n = LL at *
    generalize hmm : LL.length = mm at *
    have HMM := Lib.hid hmm
    clear hmm hand hSW
    have HO2w : Hid (Own w2 base (.slice (some ⟨g, 0, none⟩) q c) (nI way)) := HO.out.below HB2.out
    have HCL := Lib.hid (below_of_grown HB.out (grown_below HB2.out (some g)) (fun x h => by injection h with h; omega))
    have hsz2 := HB2.out.size
    clear HB0 HX0 HRD HDX HDB hszd HR HXT
    go_wp2
    go_loopw [36] (fun i wr => ∃ j : Nat, j ≤ mm ∧ i = .int .i64 j ∧ Hid (∀ a, a < j → dfs xs n want m (way ++ [LL.getD a 0]) = none) ∧ Hid (w2.grownBy wr (some g)) ∧ Hid (Own wr base (.slice (some ⟨g, 0, none⟩) q c) (nI way))) (fun i _ => mm - (intOf i).toNat)
    case atStart => exact ⟨0, by omega, rfl, fun a ha => absurd ha (by omega), World.grownBy.refl _ _, HO2w.out⟩
    case round =>
      obtain ⟨wo, rfl⟩ : ∃ x, x = wr := ⟨_, rfl⟩
      obtain ⟨j, hj, rfl, HDN, HG, HOW⟩ := hrel
      by_cases hjm : j < mm
      · have hjl : j < LL.length := by rw [HMM.out]; exact hjm
        have hb := HLT.out (LL.getD j 0) (by rw [getD_nat hjl]; exact List.getElem_mem _)
        have hnw : LL.getD j 0 < n ∧ ∀ x ∈ way ++ [LL.getD j 0], x < n := ⟨hb, fun x hx => by
          rw [List.mem_append, List.mem_singleton] at hx
          rcases hx with hx | rfl
          · exact HX.out x hx
          · exact hb⟩
        have HNW := Lib.hid hnw.2
        obtain ⟨g2, off2, rfl, hg2w, hcl2⟩ := HLC.out (by omega)
        have hbg2 := HBX.out g2 off2 rfl
        have hcj := hcl2 j hjm
        have hne2 : some g2 ≠ some g := by intro h; injection h with h; omega
        have hcjo := (World.cell?_of_block (a := ⟨g2, off2 + j, none⟩) (HG.out.block g2 hg2w hne2)).trans hcj
        have HXo := Lib.hid (HX2.out.kept HG.out (by intro h; injection h with h; omega))
        have y0_0 := HXo.out.1
        have y1_0 := HXo.out.2
        have hszo := HG.out.size
        have HDj := Lib.hid (show ∀ F : Nat → Option (List Nat), F (LL.getD j 0) = F (LL.getD j 0) from fun _ => rfl)
        clear hcj hcl2 hnw
        obtain ⟨b, hbe⟩ : ∃ b, LL.getD j 0 = b := ⟨_, rfl⟩
        rw [hbe] at hb HNW hcjo
        have HBE := Lib.hid hbe
        clear hbe HDj
        have HXa := Lib.hid ((show TBox wo.drew w.heap.size n (.slice (some ⟨gt, off, none⟩) n ct) from HXo.out).below (below_alloc1 wo.drew (.cells #[.int .i64 (b : Nat)] 3)))
        have HOa := Lib.hid ((show Own wo.drew base (.slice (some ⟨g, 0, none⟩) q c) (nI way) from HOW.out).below (below_alloc1 wo.drew (.cells #[.int .i64 (b : Nat)] 3)))
        have hnew : (wo.drew.alloc (.cells #[.int .i64 (b : Nat)] 3)).cell? ⟨wo.drew.heap.size, 0, none⟩ = some (.int .i64 (b : Nat)) := cell_new1 wo.drew _ _
        have HNEW : Hid ((wo.drew.alloc (.cells #[.int .i64 (b : Nat)] 3)).cell? ⟨wo.heap.size, 0, none⟩ = some (.int .i64 (b : Nat))) := hnew
        clear hnew
        have y0_a := HXa.out.1
        have y1_a := HXa.out.2
        have y0_d : wo.drew.cell? ⟨w.heap.size, 0, none⟩ = some (.int .i64 n) := y0_0
        have y1_d : wo.drew.cell? ⟨w.heap.size, 1, none⟩ = some (.slice (some ⟨gt, off, none⟩) n ct) := y1_0
        have HQN : Hid ((nI way).length = q) := by unfold Hid; rw [nI_len]; exact HP.out
        have hda : w.heap.size ≤ (wo.drew.alloc (.cells #[.int .i64 (b : Nat)] 3)).heap.size := by simp; omega
        have hbase5 : base ≤ (wo.drew.alloc (.cells #[.int .i64 (b : Nat)] 3)).heap.size := Nat.le_trans hbw hda
        have HLA := Lib.hid (World.block_lt_of_cell? _ _ HXa.out.1)
        have HGN : Hid (w.heap.size ≠ g) := by unfold Hid; omega
        have HNEG : Hid (some w.heap.size ≠ (Value.slice (some ⟨g, 0, none⟩) q c).ownBlock) := by intro h; injection h with h; have h : w.heap.size = g := h; omega
        have HGC := Lib.hid (fun x (h : some g = some x) => show wC.heap.size ≤ x from by injection h with h; omega)
        have HL2 : Hid (0 < (way ++ [b]).length ∧ (way ++ [b]).length + m = k) := by have := HL.out; have := HP.out; unfold Hid; rw [List.length_append, List.length_singleton]; omega
        go_wp2_with fail
        go_region_held3 (fun W => W.cell? ⟨w.heap.size, 0, none⟩ = some (.int .i64 n) ∧ W.cell? ⟨w.heap.size, 1, none⟩ = some (.slice (some ⟨gt, off, none⟩) n ct))
          (first | exact ⟨y0_0, y1_0⟩ | exact ⟨y0_d, y1_d⟩ | exact ⟨y0_a, y1_a⟩ | exact ⟨y0_5, y1_5⟩ | exact ⟨y0_6, y1_6⟩)
          (first
            | (go_at_call 83; refine (IH.out (way ++ [b]) base _ w5 HB5.out hbC hbw5 HO5.out HL2.out.1 HL2.out.2 HNW.out).mono ?_; rintro e w6 ⟨v6, rfl, hs6, hn6, hg6, ho6⟩; have HX6 := Lib.hid (HX5.out.kept hg6 HNE5.out); have y0_6 := HX6.out.1; have y1_6 := HX6.out.2; have HS6 := Lib.hid hs6; have HN6 := Lib.hid hn6; have HG6 := Lib.hid hg6; have HO6 := Lib.hid ho6; clear hs6 hn6 hg6 ho6)
            | (refine step_append1k (wo.drew.alloc (.cells #[.int .i64 (b : Nat)] 3)) rfl (.tmp 41) (.tmp 43) rfl base (.slice (some ⟨g, 0, none⟩) q c) (nI way) q HQN.out (b : Int) wo.heap.size (by simp [Act.eval]) HOa.out (by simp [Act.eval]) HNEW.out (by omega) hbase5 ?_; intro g5 c5 w5 ho5 hk5 hg5 hat5; have HX5 := Lib.hid (HXa.out.kept hg5 HNEG.out); have y0_5 := HX5.out.1; have y1_5 := HX5.out.2; have HO5 := Lib.hid (show Own w5 base (.slice (some ⟨g5, 0, none⟩) (q + 1) c5) (nI (way ++ [b])) from by rw [nI_snoc]; exact ho5); have HK5 := Lib.hid hk5; have HG5 := Lib.hid (HG.out.trans (let z := grown_of_alloc hg5; (⟨z.os, z.tape, z.output, z.size, z.block⟩ : wo.grownBy w5 (some g)))); have hbw5 : base ≤ w5.heap.size := Nat.le_trans hbase5 hg5.size; have HB5 := Lib.hid (below_of_grown HCL.out HG5.out HGC.out); have HNE5 : Hid (some w.heap.size ≠ (Value.slice (some ⟨g5, 0, none⟩) (q + 1) c5).ownBlock) := ne5 HLA.out HGN.out hat5; have HAT5 := Lib.hid hat5; clear ho5 hk5 hg5 hat5))
        have HG7 := Lib.hid (grown_new HG5.out HG6.out (fun x hx => by
          have hx : g5 = x := by injection hx
          rcases HAT5.out with e | e
          · injection e with e1 _ _
            injection e1 with e1
            injection e1 with e1 _ _
            exact .inr (by rw [← hx, ← e1])
          · refine .inl ?_
            have := HG.out.size
            have h5 : (wo.drew.alloc (.cells #[.int .i64 (b : Nat)] 3)).heap.size = wo.heap.size + 1 := by simp
            omega))
        have HO7 : Hid (Own w6 base (.slice (some ⟨g, 0, none⟩) q c) (nI way)) := by
          rcases HAT5.out with e | e
          · have h6 := HO6.out
            rw [nI_snoc] at h6
            injection e with e1 _ e3
            injection e1 with e1
            injection e1 with e1 _ _
            subst e1 e3
            exact own_prefix HQN.out h6
          · exact HK5.out.kept HG6.out (.inr (by
              intro h
              injection h with h
              have h : g = g5 := h
              have h5 : (wo.drew.alloc (.cells #[.int .i64 (b : Nat)] 3)).heap.size = wo.heap.size + 1 := by simp
              omega))
        have HW5 : Hid (w.heap.size ≤ w5.heap.size) := Nat.le_trans hsz2 HG5.out.size
        have HGR := Lib.hid ((grown_below HB2.out (some g)).trans HG7.out)
        clear HG6 HG5 HK5 HO6 HX5 HX6 HB5 HAT5 HXa HOa HNEW HNEG HNE5 y0_0 y1_0 y0_d y1_d y0_a y1_a y0_5 y1_5 y0_6 y1_6
        rcases hd : dfs xs n want m (way ++ [b]) with _ | L
        · have hv := HN6.out (by rw [HN.out]; exact hd)
          subst hv
          have HHD := Lib.hid hd
          clear hd
          go_wp2
          go_roundw
          case rel =>
            refine ⟨j + 1, by omega, by go_num, fun a ha => ?_, HG7.out, HO7.out⟩
            by_cases haj : a < j
            · exact HDN.out a haj
            · obtain rfl : a = j := by omega
              rw [HBE.out]; exact HHD.out
          case measure => simp [intOf]; omega
        · obtain ⟨⟨g6, c6, rfl⟩, ho⟩ := HS6.out L (by rw [HN.out]; exact hd)
          have HR6 : Hid (dfs xs n want (m + 1) way = some L) := by
            unfold Hid
            rw [HDF.out, HC2.out]
            exact fs_hit hjl HDN.out (by rw [HBE.out]; exact hd)
          have HOL := Lib.hid (ho.mono HW5.out)
          clear hd ho
          go_wp2
          go_ret
          unfold WayPost
          rw [HN.out]
          refine ⟨.slice (some ⟨g6, 0, none⟩) k c6, rfl, fun L' h => ?_, fun h => ?_, HGR.out, HO7.out⟩
          · rw [HR6.out] at h
            injection h with h
            subst h
            exact ⟨⟨_, _, rfl⟩, HOL.out⟩
          · rw [HR6.out] at h; cases h
      · obtain rfl : mm = j := by omega
        have HR6 : Hid (dfs xs n want (m + 1) way = none) := by
          unfold Hid
          rw [HDF.out, HC2.out]
          exact fs_miss (by rw [HMM.out]; exact HDN.out)
        have HGR := Lib.hid ((grown_below HB2.out (some g)).trans HG.out)
        go_wp2
        go_ret
        unfold WayPost
        rw [HN.out]
        exact ⟨.slice none 0 0, rfl, fun L' h => by (rw [HR6.out] at h; cases h), fun _ => rfl, HGR.out, HOW.out⟩
end Go.Proofs.Ytkhjdijdcjgpfaa

