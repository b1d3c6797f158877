/- slices.insertionSortCmpFunc of a block with rows ahead and behind. -/
import Derived.Test.YtdmneccfbfdloaaSymB
namespace Go.Proofs.Ytdmneccfbfdloaa
open Go.RowKit Go.Sort
set_option maxRecDepth 100000
theorem set_left (A B : List Int) (k : Nat) (y : Int) (h : k < A.length) : (A ++ B).set k y = A.set k y ++ B := List.set_append_left k y h
theorem getD_left (A B : List Int) (k : Nat) (h : k < A.length) : (A ++ B).getD k 0 = A.getD k 0 := by
  rw [List.getD_eq_getElem?_getD, List.getElem?_append_left h, ← List.getD_eq_getElem?_getD]
theorem insSortE_any (f : Value) (a b n g c : Nat) (w : World) (hab : b ≤ a + 1) (ha : a ≤ 40) :
    Calls Try.prog 71 #[.slice (some ⟨g, 0, none⟩) n c, .int .i64 a, .int .i64 b, f] w fun e w' => e = .returned (.tuple #[]) ∧ w' = w := by
  go_enter Try.func71, Try.ntmps71
  have t0 : IntKind.i64.wrap ((a : Int) + 1) = (a : Int) + 1 := IntWalk.i64_in _ (by omega)
  have HAB := Lib.hid hab
  go_wp2
  go_loopw [8] (fun i wr => i = .int .i64 ((a : Int) + 1) ∧ wr = w) (fun i _ => 0)
  case atStart => exact ⟨rfl, rfl⟩
  case round =>
    obtain ⟨rfl, rfl⟩ := hrel
    have d0 : decide ((a : Int) + 1 < (b : Int)) = false := by simp; omega
    go_wp2
    go_end0
    exact ⟨rfl, rfl⟩
set_option maxHeartbeats 8000000 in
theorem insSortO_any (F : FuncId) (caps : Array Value) (hE : Enters F) (cf : Int → Int → Int) (P L S : List Int) (a b n nl base g c : Nat) (w : World) (hP : P.length = a) (hll : L.length = nl) (hb : a + nl = b) (hl : (P ++ L ++ S).length = n) (hn : n ≤ 1000) (hln : b ≤ n) (h1 : 1 ≤ nl) (hbase : base ≤ w.heap.size)
    (h : Own w base (.slice (some ⟨g, 0, none⟩) n c) (P ++ L ++ S))
    (hf : ∀ x ∈ L, ∀ y ∈ L, ∀ w', Below base w w' → Calls Try.prog F (#[.int .i64 x, .int .i64 y] ++ caps) w' fun e w'' => e = .returned (.int .i64 (cf x y)) ∧ Below w'.heap.size w' w'') :
    Calls Try.prog 71 #[.slice (some ⟨g, 0, none⟩) n c, .int .i64 a, .int .i64 b, .func (.func F) #[] caps] w fun e w' => e = .returned (.tuple #[]) ∧ Own w' base (.slice (some ⟨g, 0, none⟩) n c) (P ++ sortR (fun x y => decide (cf x y < 0)) L ++ S) ∧ Below base w w' := by
  have HF := Lib.hid hf
  clear hf
  have hE' : ∀ (args : Array Value) (W : World), (callFunc F args).run Try.prog W = .ok (.enter F args) W := hE
  have hg := (h.lt g rfl)
  have HO0 := Lib.hid h
  have HL := Lib.hid hll
  have HP0 := Lib.hid hP
  have HLn := Lib.hid hl
  have hbb : b ≤ a + nl := by omega
  have hbb2 : a + nl ≤ b := by omega
  clear h hll hP hl hb
  generalize hbef : (fun x y => decide (cf x y < 0)) = bef at *
  have HBEF : Hid (∀ x y, bef x y = decide (cf x y < 0)) := fun x y => by rw [← hbef]
  clear hbef
  have HLEN : Hid (∀ q k, q ≤ k → k < nl → (P ++ (midR (sortR bef (L.take k)) (L.getD k 0) (L.drop (k + 1)) q ++ S)).length = n) := Lib.hid (fun q k h2 h3 => by
    have h4 := HLn.out
    have h5 := HL.out
    have h6 := midR_len (sortR bef (L.take k)) (L.getD k 0) (L.drop (k + 1)) q (by rw [sortR_len bef L (by omega)]; exact h2)
    rw [sortR_len bef L (by omega), List.length_drop] at h6
    simp only [List.length_append] at h4 ⊢
    rw [h6]
    omega)
  have t0 : IntKind.i64.wrap ((a : Int) + 1) = (a : Int) + 1 := IntWalk.i64_in _ (by omega)
  go_enter Try.func71, Try.ntmps71
  go_wp2
  go_loopw [8] (fun i wr => ∃ k e : Nat, 1 ≤ k ∧ k ≤ nl ∧ e ≤ a + k ∧ a + k ≤ e ∧ i = .int .i64 e ∧ Hid (Own wr base (.slice (some ⟨g, 0, none⟩) n c) (P ++ (sortR bef (L.take k) ++ L.drop k) ++ S)) ∧ Hid (Below base w wr)) (fun i _ => b - (intOf i).toNat)
  case atStart => exact ⟨1, a + 1, by omega, h1, by omega, by omega, by go_num, Lib.hid (by rw [sortR_one bef L (by rw [HL.out]; exact h1)]; exact HO0.out), Lib.hid ((Below.refl _ _).mono hbase)⟩
  case round =>
    obtain ⟨wo, rfl⟩ : ∃ x, x = wr := ⟨_, rfl⟩
    obtain ⟨k, e, hk1, hk, he1, he2, rfl, HO, HB⟩ := hrel
    by_cases hlt : k < nl
    · have heb : e < b := by omega
      go_wp2
      go_loopw [9] (fun i wr => ∃ j q : Nat, j ≤ k ∧ q ≤ a + j ∧ a + j ≤ q ∧ i = .int .i64 q ∧ Hid (Own wr base (.slice (some ⟨g, 0, none⟩) n c) (P ++ (midR (sortR bef (L.take k)) (L.getD k 0) (L.drop (k + 1)) j ++ S))) ∧ Hid (posR bef (L.getD k 0) (sortR bef (L.take k)) k = posR bef (L.getD k 0) (sortR bef (L.take k)) j) ∧ Hid (Below base w wr)) (fun i _ => (intOf i).toNat)
      case atStart => exact ⟨k, e, by omega, by omega, by omega, rfl, Lib.hid (by
        have e := midR_start (sortR bef (L.take k)) (L.getD k 0) (L.drop (k + 1))
        rw [sortR_len bef L (by rw [HL.out]; omega)] at e
        rw [e, ← drop_eq' (by rw [HL.out]; exact hlt), ← List.append_assoc]; exact HO.out), Lib.hid rfl, HB⟩
      case round =>
        obtain ⟨j, q, hj, hq1, hq2, rfl, HOj, HP, HBj⟩ := hrel
        have hSl := sortR_len bef L (i := k) (by rw [HL.out]; omega)
        have HMA := Lib.hid (midR_at (sortR bef (L.take k)) (L.getD k 0) (L.drop (k + 1)) j (by omega))
        have HEX := Lib.hid (HLEN.out j k hj hlt)
        rcases Nat.eq_zero_or_pos j with rfl | hj0
        · have dq : decide ((a : Int) < (q : Int)) = false := by simp; omega
          have dq2 : decide (a < q) = false := by simp; omega
          go_wp2_with fail
          refine wp_region_below (by kernel_rfl) (by kernel_rfl) ?_
          repeat (go_big_quiet_step (first | (with_reducible fail)))
          refine wpQuiet_nil ?_
          intro wq hbq0
          have HBQ := Lib.hid hbq0
          clear hbq0
          have hpos : posR bef (L.getD k 0) (sortR bef (L.take k)) (sortR bef (L.take k)).length = 0 := by rw [hSl]; exact HP.out
          have HFIN := Lib.hid (midR_end bef (sortR bef (L.take k)) (L.getD k 0) (L.drop (k + 1)) 0 hpos)
          have HSU := Lib.hid (sortR_succ bef L (show k < L.length by rw [HL.out]; exact hlt))
          clear hpos
          go_wp2
          go_roundw
          case rel => exact ⟨k + 1, e + 1, by omega, by omega, by omega, by omega, by go_num, Lib.hid (by rw [HSU.out, ← HFIN.out, List.append_assoc]; exact HOj.out.below HBQ.out), Lib.hid (HBj.out.trans (HBQ.out.mono (Nat.le_trans hbase HBj.out.size)))⟩
          case measure => simp [intOf]; omega
        · obtain ⟨j, rfl⟩ : ∃ i, j = i + 1 := ⟨j - 1, by omega⟩
          obtain ⟨p, rfl⟩ : ∃ p, q = p + 1 := ⟨q - 1, by omega⟩
          have dq : decide ((a : Int) < (p : Int) + 1) = true := by simp; omega
          have dq2 : decide (a < p + 1) = true := by simp; omega
          have dq3 : a < p + 1 := by omega
          have hx : L.getD k 0 ∈ L := getD_memI (by rw [HL.out]; exact hlt)
          have hy : (sortR bef (L.take k)).getD j 0 ∈ L := mem_sortR (i := k) (by rw [HL.out]; omega) (getD_memI (by omega))
          have HPR := Lib.hid (midR_prev (sortR bef (L.take k)) (L.getD k 0) (L.drop (k + 1)) j (by omega))
          have HSW := Lib.hid (midR_swap (sortR bef (L.take k)) (L.getD k 0) (L.drop (k + 1)) j (by omega))
          have HGO := Lib.hid (fun h => posR_go (bef := bef) (x := L.getD k 0) (S := sortR bef (L.take k)) (k := j) h)
          have HST := Lib.hid (fun h => posR_stop (bef := bef) (x := L.getD k 0) (S := sortR bef (L.take k)) (k := j) h)
          have HEND := Lib.hid (fun h => midR_end bef (sortR bef (L.take k)) (L.getD k 0) (L.drop (k + 1)) (j + 1) h)
          have HSU := Lib.hid (sortR_succ bef L (show k < L.length by rw [HL.out]; exact hlt))
          have HBF := Lib.hid (HBEF.out (L.getD k 0) ((sortR bef (L.take k)).getD j 0))
          have hml := midR_len (sortR bef (L.take k)) (L.getD k 0) (L.drop (k + 1)) (j + 1) (by omega)
          have hlM := HEX.out
          obtain ⟨hxc, hfz⟩ := HOj.out.at1 hlM (by omega)
          have hP1 := HP0.out
          have E1 := pre_at P (midR (sortR bef (L.take k)) (L.getD k 0) (L.drop (k + 1)) (j + 1) ++ S) (j + 1)
          have E0 := pre_at P (midR (sortR bef (L.take k)) (L.getD k 0) (L.drop (k + 1)) (j + 1) ++ S) j
          rw [hP1, show a + (j + 1) = p + 1 by omega, getD_left (midR (sortR bef (L.take k)) (L.getD k 0) (L.drop (k + 1)) (j + 1)) S (j + 1) (by omega), HMA.out] at E1
          rw [hP1, show a + j = p by omega, getD_left (midR (sortR bef (L.take k)) (L.getD k 0) (L.drop (k + 1)) (j + 1)) S j (by omega), HPR.out] at E0
          have z1 := hxc (p + 1) (by omega)
          have z0 := hxc p (by omega)
          rw [E1] at z1
          rw [E0] at z0
          have U : Hid (((P ++ (midR (sortR bef (L.take k)) (L.getD k 0) (L.drop (k + 1)) (j + 1) ++ S)).set (p + 1) ((sortR bef (L.take k)).getD j 0)).set p (L.getD k 0) = P ++ (midR (sortR bef (L.take k)) (L.getD k 0) (L.drop (k + 1)) j ++ S)) := Lib.hid (by
            have h1 := pre_set P (midR (sortR bef (L.take k)) (L.getD k 0) (L.drop (k + 1)) (j + 1) ++ S) (j + 1) ((sortR bef (L.take k)).getD j 0)
            rw [hP1, show a + (j + 1) = p + 1 by omega, set_left (midR (sortR bef (L.take k)) (L.getD k 0) (L.drop (k + 1)) (j + 1)) S (j + 1) _ (by omega)] at h1
            have h2 := pre_set P ((midR (sortR bef (L.take k)) (L.getD k 0) (L.drop (k + 1)) (j + 1)).set (j + 1) ((sortR bef (L.take k)).getD j 0) ++ S) j (L.getD k 0)
            rw [hP1, show a + j = p by omega, set_left ((midR (sortR bef (L.take k)) (L.getD k 0) (L.drop (k + 1)) (j + 1)).set (j + 1) ((sortR bef (L.take k)).getD j 0)) S j _ (by rw [List.length_set]; omega), HSW.out] at h2
            rw [h1, h2])
          have k1 := quiet_below (w := wr) (fun W hW => HF.out _ hx _ hy W (HBj.out.trans (hW.mono (Nat.le_trans hbase HBj.out.size))))
          rw [hSl] at HEND
          have hpn : p + 1 < n := by omega
          have hpn2 : p < n := by omega
          clear hx hy hxc hfz hml E0 E1 hP1 HSW
          generalize hS : sortR bef (L.take k) = S' at *
          generalize hX : L.getD k 0 = x at *
          generalize hR : L.drop (k + 1) = rest at *
          generalize hY : S'.getD j 0 = y at *
          have hk1 := k1 0 #[]
          rcases hq : bef x y with _ | _
          · have hr : ¬ cf x y < 0 := by rw [HBF.out] at hq; exact of_decide_eq_false hq
            generalize cf x y = r at *
            go_wp2_with fail
            have c1 := cell_regrown z1
            have c0 := cell_regrown z0
            clear z0 z1
            refine wp_region_below (by kernel_rfl) (by kernel_rfl) ?_
            repeat (go_big_quiet_step (first | (with_reducible exact k1 _ _)))
            refine wpQuiet_nil ?_
            intro wq hbq0
            have HBQ := Lib.hid hbq0
            clear hbq0 c0 c1 k1 hk1
            have HFIN := Lib.hid (HEND.out (by rw [HP.out]; exact HST.out hq))
            go_wp2
            go_roundw
            case rel => exact ⟨k + 1, e + 1, by omega, by omega, by omega, by omega, by go_num, Lib.hid (by rw [HSU.out, hR, ← HFIN.out, List.append_assoc]; exact HOj.out.below HBQ.out), Lib.hid (HBj.out.trans (HBQ.out.mono (Nat.le_trans hbase HBj.out.size)))⟩
            case measure => simp [intOf]; omega
          · have hr : cf x y < 0 := by rw [HBF.out] at hq; exact of_decide_eq_true hq
            generalize cf x y = r at *
            go_wp2_with fail
            have c1 := cell_regrown z1
            have c0 := cell_regrown z0
            clear z0 z1
            refine wp_region_below (by kernel_rfl) (by kernel_rfl) ?_
            repeat (go_big_quiet_step (first | (with_reducible exact k1 _ _)))
            refine wpQuiet_nil ?_
            intro wq hbq0
            have HBQ := Lib.hid hbq0
            clear hbq0 c0 c1 k1 hk1
            have O2 := HOj.out.below HBQ.out
            have HB2 := Lib.hid (HBj.out.trans (HBQ.out.mono (Nat.le_trans hbase HBj.out.size)))
            obtain ⟨hxc, hfz⟩ := O2.at1 hlM (by omega)
            have z1 := hxc (p + 1) (by omega)
            have z0 := hxc p (by omega)
            have f1 := hfz (p + 1)
            have f0 := hfz p
            have O3 := (O2.set_ hlM (p + 1) y).1
            have hlM2 : ((P ++ (midR S' x rest (j + 1) ++ S)).set (p + 1) y).length = n := by rw [List.length_set]; exact hlM
            have O4 := Lib.hid (O3.set_ hlM2 p x).1
            rw [U.out] at O4
            have HB4 := Lib.hid ((HB2.out.setCell (p := ⟨g, p + 1, none⟩) hg.1 (.int .i64 y)).setCell (p := ⟨g, p, none⟩) hg.1 (.int .i64 x))
            have HPN := HGO.out hq
            rw [(by
              have := pre_at P (midR S' x rest (j + 1) ++ S) (j + 1)
              have hm1 := midR_len S' x rest (j + 1) (by omega)
              rw [HP0.out, show a + (j + 1) = p + 1 by omega, getD_left (midR S' x rest (j + 1)) S (j + 1) (by omega), HMA.out] at this
              exact this : (P ++ (midR S' x rest (j + 1) ++ S)).getD (p + 1) 0 = x)] at z1
            rw [(by
              have := pre_at P (midR S' x rest (j + 1) ++ S) j
              have hm1 := midR_len S' x rest (j + 1) (by omega)
              rw [HP0.out, show a + j = p by omega, getD_left (midR S' x rest (j + 1)) S j (by omega), HPR.out] at this
              exact this : (P ++ (midR S' x rest (j + 1) ++ S)).getD p 0 = y)] at z0
            clear O2 O3 hxc hfz hlM2 HSU HEND HST HGO
            go_wp2_with fail
            have hwj : IntKind.i64.wrap ((p : Nat) : Int) = (p : Int) := by rw [IntWalk.i64_left]; exact wrap64_nat p (by omega)
            have hjn2 : (p : Int) + 1 < (n : Int) := by omega
            have hjn3 : (0 : Int) ≤ (p : Int) + 1 := by omega
            go_region_law (fail)
            all_goals
              have HO5 : Hid (Own ((wq.setCell ⟨g, p + 1, none⟩ (.int .i64 y)).setCell ⟨g, p, none⟩ (.int .i64 x)).drew base (.slice (some ⟨g, 0, none⟩) n c) (P ++ (midR S' x rest j ++ S))) := O4.out
              have HB5 : Hid (Below base w ((wq.setCell ⟨g, p + 1, none⟩ (.int .i64 y)).setCell ⟨g, p, none⟩ (.int .i64 x)).drew) := ⟨HB4.out.os, HB4.out.tape, HB4.out.output, HB4.out.size, HB4.out.block⟩
              have HPJ : Hid (posR bef x S' k = posR bef x S' j) := HP.out.trans HPN
              clear z1 z0 f1 f0 hwj hjn2 hjn3
              generalize ((wq.setCell ⟨g, p + 1, none⟩ (.int .i64 y)).setCell ⟨g, p, none⟩ (.int .i64 x)).drew = w9 at HO5 HB5 ⊢
              go_wp2
              go_roundw
              case rel => exact ⟨j, p, by omega, by omega, by omega, by go_num, HO5, HPJ, HB5⟩
              case measure => simp [intOf]
    · obtain rfl : nl = k := by omega
      have e1 : L.take nl = L := List.take_of_length_le (by rw [HL.out]; exact Nat.le_refl _)
      have e2 : L.drop nl = [] := List.drop_eq_nil_of_le (by rw [HL.out]; exact Nat.le_refl _)
      rw [e1, e2, List.append_nil] at HO
      have heb : ¬ e < b := by omega
      go_wp2
      go_end0
      exact ⟨rfl, HO.out, HB.out⟩
end Go.Proofs.Ytdmneccfbfdloaa
