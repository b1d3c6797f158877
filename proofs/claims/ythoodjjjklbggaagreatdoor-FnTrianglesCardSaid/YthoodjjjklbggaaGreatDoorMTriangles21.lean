/- Texts put together: TgS. -/
import Derived.Test.YthoodjjjklbggaaGreatDoorMTriangles11
import Derived.Test.YthoodjjjklbggaaGreatDoorMTriangles20
import Derived.Test.YthoodjjjklbggaaGreatDoorMTriangles02
namespace Go.Proofs.YthoodjjjklbggaaGreatDoor
open Go.RowKit Go.Sort
set_option maxRecDepth 100000
/-- numbers in an own block from a place on -/
def Win (w : World) (base g off n : Nat) (L : List Int) : Prop := L.length = n ∧ base ≤ g ∧ g < w.heap.size ∧ (∀ k, k < n → w.cell? ⟨g, off + k, none⟩ = some (.int .i64 (L.getD k 0))) ∧ ∀ k, w.frozen? ⟨g, off + k, none⟩ = false
theorem Win.below {w w' : World} {base g off n : Nat} {L : List Int} (h : Win w base g off n L) (hb : Below w.heap.size w w') : Win w' base g off n L :=
  ⟨h.1, h.2.1, Nat.lt_of_lt_of_le h.2.2.1 hb.size, fun k hk => (hb.cell (p := ⟨g, off + k, none⟩) h.2.2.1).trans (h.2.2.2.1 k hk), fun k => (hb.frozen (p := ⟨g, off + k, none⟩) h.2.2.1).trans (h.2.2.2.2 k)⟩
theorem Win.set_ {w : World} {base g off n : Nat} {L : List Int} (h : Win w base g off n L) (k : Nat) (y : Int) (hk : k < n) : Win (w.setCell ⟨g, off + k, none⟩ (.int .i64 y)) base g off n (L.set k y) := by
  refine ⟨by rw [List.length_set]; exact h.1, h.2.1, by simpa using h.2.2.1, fun j hj => ?_, fun j => by rw [World.frozen?_setCell]; exact h.2.2.2.2 j⟩
  by_cases e : j = k
  · subst e
    rw [World.cell?_setCell_same _ _ _ (h.2.2.2.1 j hj)]
    simp [List.getD_eq_getElem?_getD, h.1, hk]
  · rw [World.cell?_setCell_other _ _ _ _ (by first | (simp; done) | (simp; omega)), h.2.2.2.1 j hj]
    simp [List.getD_eq_getElem?_getD, List.getElem?_set_ne (Ne.symm e)]
theorem Win.own {w : World} {base g n c : Nat} {L : List Int} (h : Own w base (.slice (some ⟨g, 0, none⟩) n c) L) (hl : L.length = n) (h0 : 0 < n) : Win w base g 0 n L := by
  obtain ⟨hx, hf⟩ := h.at1 hl h0
  have hlt := h.lt g rfl
  exact ⟨hl, hlt.1, hlt.2, fun k hk => by rw [Nat.zero_add]; exact hx k hk, fun k => hf _⟩
theorem Win.rd {w : World} {base g off n c : Nat} {L : List Int} (h : Win w base g off n L) (hnc : n ≤ c) (hc : c ≤ maxLen) : Rd w (.slice (some ⟨g, off, none⟩) n c) L :=
  ⟨_, c, by rw [h.1], by rw [h.1]; exact hnc, hc, fun _ => ⟨g, off, rfl, h.2.2.1, fun k hk => h.2.2.2.1 k (by rw [← h.1]; exact hk)⟩⟩
theorem Win.tail {w : World} {base g off n : Nat} {x : Int} {L : List Int} (h : Win w base g off (n + 1) (x :: L)) : Win w base g (off + 1) n L :=
  ⟨by simpa using h.1, h.2.1, h.2.2.1, fun k hk => by
    have := h.2.2.2.1 (k + 1) (by omega)
    rw [show off + 1 + k = off + (k + 1) by omega]
    simpa using this, fun k => by
    have := h.2.2.2.2 (k + 1)
    rwa [show off + 1 + k = off + (k + 1) by omega]⟩
/-- another block is written -/
theorem Win.grown {w w' : World} {base g off n : Nat} {L : List Int} {row : Option Nat} (h : Win w base g off n L) (hg : w.grownBy w' row) (hne : some g ≠ row) : Win w' base g off n L :=
  ⟨h.1, h.2.1, Nat.lt_of_lt_of_le h.2.2.1 hg.size, fun k hk => (World.cell?_of_block (w := w) (hg.block g h.2.2.1 hne)).trans (h.2.2.2.1 k hk), fun k => (World.frozen?_of_block (w := w) (hg.block g h.2.2.1 hne)).trans (h.2.2.2.2 k)⟩
theorem grown_refl (w : World) (row : Option Nat) : w.grownBy w row := ⟨rfl, rfl, rfl, Nat.le_refl _, fun _ _ _ => rfl⟩
theorem grown_of_below {w w' : World} {row : Option Nat} (h : Below w.heap.size w w') : w.grownBy w' row := ⟨h.os, h.tape, h.output, h.size, fun i hi _ => h.block i hi⟩
set_option maxHeartbeats 4000000 in
theorem insSortW_any (F : FuncId) (caps : Array Value) (hE : Enters F) (cf : Int → Int → Int) (L : List Int) (n base g off c : Nat) (w : World) (hl : L.length = n) (hn : n ≤ 40) (ho : off ≤ 1000) (hc : c ≤ 4611686018427387904) (hnc : n ≤ c) (h1 : 1 ≤ n) (hbase : base ≤ w.heap.size)
    (h : Win w base g off n L)
    (hf : ∀ x ∈ L, ∀ y ∈ L, ∀ w', w.grownBy w' (some g) → Calls Tryz.prog F (#[.int .i64 x, .int .i64 y] ++ caps) w' fun e w'' => e = .returned (.int .i64 (cf x y)) ∧ Below w'.heap.size w' w'') :
    Calls Tryz.prog 93 #[.slice (some ⟨g, off, none⟩) n c, .int .i64 0, .int .i64 n, .func (.func F) #[] caps] w fun e w' => e = .returned (.tuple #[]) ∧ Win w' base g off n (sortR (fun x y => decide (cf x y < 0)) L) ∧ w.grownBy w' (some g) := by
  have HF := Lib.hid hf
  clear hf
  have hE' : ∀ (args : Array Value) (W : World), (callFunc F args).run Tryz.prog W = .ok (.enter F args) W := hE
  have hg : base ≤ g ∧ g < w.heap.size := ⟨h.2.1, h.2.2.1⟩
  have HO0 := Lib.hid h
  have HL := Lib.hid hl
  clear h hl
  generalize hbef : (fun x y => decide (cf x y < 0)) = bef at *
  have HBEF : Hid (∀ x y, bef x y = decide (cf x y < 0)) := fun x y => by rw [← hbef]
  clear hbef
  go_enter Tryz.func93, Tryz.ntmps93
  go_wp2
  go_loopw [8] (fun i wr => ∃ k : Nat, 1 ≤ k ∧ k ≤ n ∧ i = .int .i64 k ∧ Win wr base g off n (sortR bef (L.take k) ++ L.drop k) ∧ w.grownBy wr (some g)) (fun i _ => n - (intOf i).toNat)
  case atStart => exact ⟨1, by omega, h1, by go_num, by rw [sortR_one bef L (by rw [HL.out]; exact h1)]; exact HO0.out, grown_refl w (some g)⟩
  case round =>
    obtain ⟨wo, rfl⟩ : ∃ x, x = wr := ⟨_, rfl⟩
    obtain ⟨k, hk1, hk, rfl, ho, hb⟩ := hrel
    have HO := Lib.hid ho
    have HB := Lib.hid hb
    clear ho hb
    by_cases hlt : k < n
    · go_wp2
      go_loopw [9] (fun i wr => ∃ j : Nat, j ≤ k ∧ i = .int .i64 j ∧ Win wr base g off n (midR (sortR bef (L.take k)) (L.getD k 0) (L.drop (k + 1)) j) ∧ Hid (posR bef (L.getD k 0) (sortR bef (L.take k)) k = posR bef (L.getD k 0) (sortR bef (L.take k)) j) ∧ w.grownBy wr (some g)) (fun i _ => (intOf i).toNat)
      case atStart => exact ⟨k, by omega, rfl, by
        have e := midR_start (sortR bef (L.take k)) (L.getD k 0) (L.drop (k + 1))
        rw [sortR_len bef L (by rw [HL.out]; omega)] at e
        rw [e, ← drop_eq' (by rw [HL.out]; exact hlt)]; exact HO.out, rfl, HB.out⟩
      case round =>
        obtain ⟨j, hj, rfl, ho, HP, hb⟩ := hrel
        have HOj := Lib.hid ho
        have HBj := Lib.hid hb
        have hSl := sortR_len bef L (i := k) (by rw [HL.out]; omega)
        have HMA := Lib.hid (midR_at (sortR bef (L.take k)) (L.getD k 0) (L.drop (k + 1)) j (by omega))
        have HML := Lib.hid (midR_len (sortR bef (L.take k)) (L.getD k 0) (L.drop (k + 1)) j (by omega))
        clear ho hb
        rcases Nat.eq_zero_or_pos j with rfl | hj0
        · go_wp2_with fail
          refine wp_region_below (by kernel_rfl) (by kernel_rfl) ?_
          repeat (go_big_quiet_step (first | (with_reducible fail)))
          refine wpQuiet_nil ?_
          intro wq hbq0
          have HBQ := Lib.hid hbq0
          clear hbq0
          have hpos : posR bef (L.getD k 0) (sortR bef (L.take k)) (sortR bef (L.take k)).length = 0 := by rw [hSl]; exact HP.out
          have HFIN := Lib.hid (midR_end bef (sortR bef (L.take k)) (L.getD k 0) (L.drop (k + 1)) 0 hpos)
          have HSU := Lib.hid (sortR_succ bef L (show k < L.length by rw [HL.out]; exact hlt))
          clear hpos
          go_wp2
          go_roundw
          case rel => exact ⟨k + 1, by omega, by omega, by go_num, by rw [HSU.out, ← HFIN.out]; exact HOj.out.below HBQ.out, HBj.out.trans (grown_of_below HBQ.out)⟩
          case measure => simp [intOf]; omega
        · obtain ⟨j, rfl⟩ : ∃ i, j = i + 1 := ⟨j - 1, by omega⟩
          have hx : L.getD k 0 ∈ L := getD_memI (by rw [HL.out]; exact hlt)
          have hy : (sortR bef (L.take k)).getD j 0 ∈ L := mem_sortR (i := k) (by rw [HL.out]; omega) (getD_memI (by omega))
          have HPR := Lib.hid (midR_prev (sortR bef (L.take k)) (L.getD k 0) (L.drop (k + 1)) j (by omega))
          have HSW := Lib.hid (midR_swap (sortR bef (L.take k)) (L.getD k 0) (L.drop (k + 1)) j (by omega))
          have HGO := Lib.hid (fun h => posR_go (bef := bef) (x := L.getD k 0) (S := sortR bef (L.take k)) (k := j) h)
          have HST := Lib.hid (fun h => posR_stop (bef := bef) (x := L.getD k 0) (S := sortR bef (L.take k)) (k := j) h)
          have HEND := Lib.hid (fun h => midR_end bef (sortR bef (L.take k)) (L.getD k 0) (L.drop (k + 1)) (j + 1) h)
          have HSU := Lib.hid (sortR_succ bef L (show k < L.length by rw [HL.out]; exact hlt))
          have HBF := Lib.hid (HBEF.out (L.getD k 0) ((sortR bef (L.take k)).getD j 0))
          have hlr : (L.drop (k + 1)).length = n - (k + 1) := by rw [List.length_drop, HL.out]
          rw [hSl, hlr] at HML
          have hlM : (midR (sortR bef (L.take k)) (L.getD k 0) (L.drop (k + 1)) (j + 1)).length = n := by rw [HML.out]; omega
          have hxc := HOj.out.2.2.2.1; have hfz := HOj.out.2.2.2.2
          have z1 := hxc (j + 1) (by omega)
          have z0 := hxc j (by omega)
          rw [HMA.out] at z1
          rw [HPR.out] at z0
          have k1 := quiet_below (w := wr) (fun W hW => HF.out _ hx _ hy W (HBj.out.trans (grown_of_below hW)))
          rw [hSl] at HEND
          clear hx hy hxc hfz hlr
          generalize hS : sortR bef (L.take k) = S at *
          generalize hX : L.getD k 0 = x at *
          generalize hR : L.drop (k + 1) = rest at *
          generalize hY : S.getD j 0 = y at *
          have hk1 := k1 0 #[]
          rcases hq : bef x y with _ | _
          · have hr : ¬ cf x y < 0 := by rw [HBF.out] at hq; exact of_decide_eq_false hq
            generalize cf x y = r at *
            go_wp2_with fail
            have c1 := cell_regrown z1
            have c0 := cell_regrown z0
            clear z0 z1
            refine wp_region_below (by kernel_rfl) (by kernel_rfl) ?_
            repeat (go_big_quiet_step (first | (with_reducible exact k1 _ _)))
            refine wpQuiet_nil ?_
            intro wq hbq0
            have HBQ := Lib.hid hbq0
            clear hbq0 c0 c1 k1 hk1
            have HFIN := Lib.hid (HEND.out (by rw [HP.out]; exact HST.out hq))
            go_wp2
            go_roundw
            case rel => exact ⟨k + 1, by omega, by omega, by go_num, by rw [HSU.out, hR, ← HFIN.out]; exact HOj.out.below HBQ.out, HBj.out.trans (grown_of_below HBQ.out)⟩
            case measure => simp [intOf]; omega
          · have hr : cf x y < 0 := by rw [HBF.out] at hq; exact of_decide_eq_true hq
            generalize cf x y = r at *
            go_wp2_with fail
            have c1 := cell_regrown z1
            have c0 := cell_regrown z0
            clear z0 z1
            refine wp_region_below (by kernel_rfl) (by kernel_rfl) ?_
            repeat (go_big_quiet_step (first | (with_reducible exact k1 _ _)))
            refine wpQuiet_nil ?_
            intro wq hbq0
            have HBQ := Lib.hid hbq0
            clear hbq0 c0 c1 k1 hk1
            have O2 := HOj.out.below HBQ.out
            have HB2 := Lib.hid (HBj.out.trans (grown_of_below HBQ.out))
            have hxc := O2.2.2.2.1; have hfz := O2.2.2.2.2
            have z1 := hxc (j + 1) (by omega)
            have z0 := hxc j (by omega)
            rw [HMA.out] at z1
            rw [HPR.out] at z0
            have f1 := hfz (j + 1)
            have f0 := hfz j
            have O3 := O2.set_ (j + 1) y (by omega)
            have O4 := Lib.hid (O3.set_ j x (by omega))
            rw [HSW.out] at O4
            have HB4 := Lib.hid ((HB2.out.trans (setCell_grown _ ⟨g, off + (j + 1), none⟩ (.int .i64 y))).trans (setCell_grown _ ⟨g, off + j, none⟩ (.int .i64 x)))
            have HPN := HGO.out hq
            clear O2 O3 hxc hfz
            go_wp2_with fail
            have hwj : IntKind.i64.wrap ((j : Nat) : Int) = (j : Int) := by rw [IntWalk.i64_left]; exact wrap64_nat j (by omega)
            have hjn : j < n := by omega
            have hjn1 : j + 1 < n := by omega
            have hjn2 : (j : Int) + 1 < (n : Int) := by omega
            have hjn3 : (0 : Int) ≤ (j : Int) + 1 := by omega
            go_region_law (fail)
            all_goals
              have HO5 : Hid (Win ((wq.setCell ⟨g, off + (j + 1), none⟩ (.int .i64 y)).setCell ⟨g, off + j, none⟩ (.int .i64 x)).drew base g off n (midR S x rest j)) := O4.out
              have HB5 : Hid (w.grownBy ((wq.setCell ⟨g, off + (j + 1), none⟩ (.int .i64 y)).setCell ⟨g, off + j, none⟩ (.int .i64 x)).drew (some g)) := ⟨HB4.out.os, HB4.out.tape, HB4.out.output, HB4.out.size, HB4.out.block⟩
              have HPJ : Hid (posR bef x S k = posR bef x S j) := HP.out.trans HPN
              clear z1 z0 f1 f0 hwj hjn hjn1 hjn2 hjn3
              generalize ((wq.setCell ⟨g, off + (j + 1), none⟩ (.int .i64 y)).setCell ⟨g, off + j, none⟩ (.int .i64 x)).drew = w9 at HO5 HB5 ⊢
              go_wp2
              go_roundw
              case rel => exact ⟨j, by omega, by go_num, HO5.out, HPJ.out, HB5.out⟩
              case measure => simp [intOf]
    · obtain rfl : n = k := by omega
      have e1 : L.take n = L := List.take_of_length_le (by rw [HL.out]; exact Nat.le_refl _)
      have e2 : L.drop n = [] := List.drop_eq_nil_of_le (by rw [HL.out]; exact Nat.le_refl _)
      rw [e1, e2, List.append_nil] at HO
      go_wp2
      go_end0
      exact ⟨rfl, HO.out, HB.out⟩
set_option maxHeartbeats 1000000 in
theorem len64_any (n : Nat) (w : World) (hn : n ≤ 8) : Calls Tryz.prog 92 #[.int .u64 n] w fun e w' => ∃ l : Int, e = .returned (.int .i64 l) ∧ w = w' := by
  have : n = 0 ∨ n = 1 ∨ n = 2 ∨ n = 3 ∨ n = 4 ∨ n = 5 ∨ n = 6 ∨ n = 7 ∨ n = 8 := by omega
  rcases this with rfl | rfl | rfl | rfl | rfl | rfl | rfl | rfl | rfl
  all_goals
    go_enter Tryz.func92, Tryz.ntmps92
    go_wp2
    go_ret
    exact ⟨_, rfl, rfl⟩
set_option maxHeartbeats 1000000 in
theorem len_any (n : Nat) (w : World) (hn : n ≤ 8) : Calls Tryz.prog 72 #[.int .u64 n] w fun e w' => ∃ l : Int, e = .returned (.int .i64 l) ∧ w = w' := by
  go_enter Tryz.func72, Tryz.ntmps72
  go_wp2_with fail
  refine (len64_any n w hn).mono ?_
  rintro e w1 ⟨l, rfl, rfl⟩
  go_wp2
  go_ret
  exact ⟨_, rfl, rfl⟩
set_option maxHeartbeats 2000000 in
theorem pdqW_any (F : FuncId) (caps : Array Value) (hE : Enters F) (cf : Int → Int → Int) (L : List Int) (n base g off c : Nat) (lim : Int) (w : World) (hl : L.length = n) (hn : n ≤ 8) (ho : off ≤ 1000) (hc : c ≤ 4611686018427387904) (hnc : n ≤ c) (h1 : 1 ≤ n) (hbase : base ≤ w.heap.size)
    (h : Win w base g off n L)
    (hf : ∀ x ∈ L, ∀ y ∈ L, ∀ w', w.grownBy w' (some g) → Calls Tryz.prog F (#[.int .i64 x, .int .i64 y] ++ caps) w' fun e w'' => e = .returned (.int .i64 (cf x y)) ∧ Below w'.heap.size w' w'') :
    Calls Tryz.prog 77 #[.slice (some ⟨g, off, none⟩) n c, .int .i64 0, .int .i64 n, .int .i64 lim, .func (.func F) #[] caps] w fun e w' => e = .returned (.tuple #[]) ∧ Win w' base g off n (sortR (fun x y => decide (cf x y < 0)) L) ∧ w.grownBy w' (some g) := by
  have HI := Lib.hid (insSortW_any F caps hE cf L n base g off c w hl (by omega) ho hc hnc h1 hbase h hf)
  clear h hf
  have d0 : decide ((n : Int) ≤ 12) = true := by rw [decide_eq_true_eq]; omega
  go_enter Tryz.func77, Tryz.ntmps77
  go_wp2
  go_loopw [1, 2] (fun a b wr => a = .int .i64 0 ∧ b = .int .i64 n ∧ wr = w) (fun _ _ _ => 0)
  case atStart => exact ⟨rfl, rfl, rfl⟩
  case round =>
    obtain ⟨rfl, rfl, rfl⟩ := hrel
    go_wp2_with fail
    refine HI.out.mono ?_
    rintro e w1 ⟨rfl, ho, hb⟩
    have HO := Lib.hid ho
    have HB := Lib.hid hb
    clear ho hb
    go_wp2
    first | go_end0 | refine bodyPost_ret (results_none rfl _ _ _) rfl ?_
    exact ⟨rfl, HO.out, HB.out⟩
set_option maxHeartbeats 2000000 in
theorem sortFuncW_any (F : FuncId) (caps : Array Value) (hE : Enters F) (cf : Int → Int → Int) (L : List Int) (n base g off c : Nat) (w : World) (hl : L.length = n) (hn : n ≤ 8) (ho : off ≤ 1000) (hc : c ≤ 4611686018427387904) (hnc : n ≤ c) (h1 : 1 ≤ n) (hbase : base ≤ w.heap.size)
    (h : Win w base g off n L)
    (hf : ∀ x ∈ L, ∀ y ∈ L, ∀ w', w.grownBy w' (some g) → Calls Tryz.prog F (#[.int .i64 x, .int .i64 y] ++ caps) w' fun e w'' => e = .returned (.int .i64 (cf x y)) ∧ Below w'.heap.size w' w'') :
    Calls Tryz.prog 50 #[.slice (some ⟨g, off, none⟩) n c, .func (.func F) #[] caps] w fun e w' => e = .returned (.tuple #[]) ∧ Win w' base g off n (sortR (fun x y => decide (cf x y < 0)) L) ∧ w.grownBy w' (some g) := by
  have HI : Hid (∀ lim : Int, Calls Tryz.prog 77 #[.slice (some ⟨g, off, none⟩) n c, .int .i64 0, .int .i64 n, .int .i64 lim, .func (.func F) #[] caps] w fun e w' => e = .returned (.tuple #[]) ∧ Win w' base g off n (sortR (fun x y => decide (cf x y < 0)) L) ∧ w.grownBy w' (some g)) := Lib.hid fun lim => pdqW_any F caps hE cf L n base g off c lim w hl hn ho hc hnc h1 hbase h hf
  clear h hf
  have e1 : IntKind.u64.wrap (n : Int) = (n : Int) := by unfold IntKind.wrap; simp [IntKind.signed, IntKind.bits]; omega
  go_enter Tryz.func50, Tryz.ntmps50
  go_wp2_with fail
  refine (len_any n w hn).mono ?_
  rintro e w1 ⟨l, rfl, rfl⟩
  go_wp2_with fail
  refine (HI.out l).mono ?_
  rintro e w1 ⟨rfl, ho, hb⟩
  have HO := Lib.hid ho
  have HB := Lib.hid hb
  clear ho hb
  go_wp2
  go_end0
  exact ⟨rfl, HO.out, HB.out⟩
end Go.Proofs.YthoodjjjklbggaaGreatDoor

