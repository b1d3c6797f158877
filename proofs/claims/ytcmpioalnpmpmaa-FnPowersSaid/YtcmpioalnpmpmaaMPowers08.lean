/- Texts put together: SortO, SymD, StabN, OrdB, RowsL, Rows2. -/
import Derived.Test.YtcmpioalnpmpmaaMPowers06
import Derived.Test.YtcmpioalnpmpmaaMPowers07
import Derived.Test.YtcmpioalnpmpmaaMPowers04
import Derived.Test.YtcmpioalnpmpmaaMPowers05
import Derived.Test.YtcmpioalnpmpmaaMPowers01
import Derived.Test.YtcmpioalnpmpmaaMPowers02
import Derived.Maps.AppendAt
namespace Go.Proofs.Ytcmpioalnpmpmaa
open Go.RowKit Go.Sort
set_option maxRecDepth 100000
theorem set_left (A B : List Int) (k : Nat) (y : Int) (h : k < A.length) : (A ++ B).set k y = A.set k y ++ B := List.set_append_left k y h
theorem getD_left (A B : List Int) (k : Nat) (h : k < A.length) : (A ++ B).getD k 0 = A.getD k 0 := by
  rw [List.getD_eq_getElem?_getD, List.getElem?_append_left h, ← List.getD_eq_getElem?_getD]
theorem insSortE_any (f : Value) (a b n g c : Nat) (w : World) (hab : b ≤ a + 1) (ha : a ≤ 40) :
    Calls Try.prog 154 #[.slice (some ⟨g, 0, none⟩) n c, .int .i64 a, .int .i64 b, f] w fun e w' => e = .returned (.tuple #[]) ∧ w' = w := by
  go_enter Try.func154, Try.ntmps154
  have t0 : IntKind.i64.wrap ((a : Int) + 1) = (a : Int) + 1 := IntWalk.i64_in _ (by omega)
  have HAB := Lib.hid hab
  go_wp2
  go_loopw [8] (fun i wr => i = .int .i64 ((a : Int) + 1) ∧ wr = w) (fun i _ => 0)
  case atStart => exact ⟨rfl, rfl⟩
  case round =>
    obtain ⟨rfl, rfl⟩ := hrel
    have d0 : decide ((a : Int) + 1 < (b : Int)) = false := by simp; omega
    go_wp2
    go_end0
    exact ⟨rfl, rfl⟩
set_option maxHeartbeats 8000000 in
theorem insSortO_any (F : FuncId) (caps : Array Value) (hE : Enters F) (cf : Int → Int → Int) (P L S : List Int) (a b n nl base g c : Nat) (w : World) (hP : P.length = a) (hll : L.length = nl) (hb : a + nl = b) (hl : (P ++ L ++ S).length = n) (hn : n ≤ 1000) (hln : b ≤ n) (h1 : 1 ≤ nl) (hbase : base ≤ w.heap.size)
    (h : Own w base (.slice (some ⟨g, 0, none⟩) n c) (P ++ L ++ S))
    (hf : ∀ x ∈ L, ∀ y ∈ L, ∀ w', Below base w w' → Calls Try.prog F (#[.int .i64 x, .int .i64 y] ++ caps) w' fun e w'' => e = .returned (.int .i64 (cf x y)) ∧ Below w'.heap.size w' w'') :
    Calls Try.prog 154 #[.slice (some ⟨g, 0, none⟩) n c, .int .i64 a, .int .i64 b, .func (.func F) #[] caps] w fun e w' => e = .returned (.tuple #[]) ∧ Own w' base (.slice (some ⟨g, 0, none⟩) n c) (P ++ sortR (fun x y => decide (cf x y < 0)) L ++ S) ∧ Below base w w' := by
  have HF := Lib.hid hf
  clear hf
  have hE' : ∀ (args : Array Value) (W : World), (callFunc F args).run Try.prog W = .ok (.enter F args) W := hE
  have hg := (h.lt g rfl)
  have HO0 := Lib.hid h
  have HL := Lib.hid hll
  have HP0 := Lib.hid hP
  have HLn := Lib.hid hl
  have hbb : b ≤ a + nl := by omega
  have hbb2 : a + nl ≤ b := by omega
  clear h hll hP hl hb
  generalize hbef : (fun x y => decide (cf x y < 0)) = bef at *
  have HBEF : Hid (∀ x y, bef x y = decide (cf x y < 0)) := fun x y => by rw [← hbef]
  clear hbef
  have HLEN : Hid (∀ q k, q ≤ k → k < nl → (P ++ (midR (sortR bef (L.take k)) (L.getD k 0) (L.drop (k + 1)) q ++ S)).length = n) := Lib.hid (fun q k h2 h3 => by
    have h4 := HLn.out
    have h5 := HL.out
    have h6 := midR_len (sortR bef (L.take k)) (L.getD k 0) (L.drop (k + 1)) q (by rw [sortR_len bef L (by omega)]; exact h2)
    rw [sortR_len bef L (by omega), List.length_drop] at h6
    simp only [List.length_append] at h4 ⊢
    rw [h6]
    omega)
  have t0 : IntKind.i64.wrap ((a : Int) + 1) = (a : Int) + 1 := IntWalk.i64_in _ (by omega)
  go_enter Try.func154, Try.ntmps154
  go_wp2
  go_loopw [8] (fun i wr => ∃ k e : Nat, 1 ≤ k ∧ k ≤ nl ∧ e ≤ a + k ∧ a + k ≤ e ∧ i = .int .i64 e ∧ Hid (Own wr base (.slice (some ⟨g, 0, none⟩) n c) (P ++ (sortR bef (L.take k) ++ L.drop k) ++ S)) ∧ Hid (Below base w wr)) (fun i _ => b - (intOf i).toNat)
  case atStart => exact ⟨1, a + 1, by omega, h1, by omega, by omega, by go_num, Lib.hid (by rw [sortR_one bef L (by rw [HL.out]; exact h1)]; exact HO0.out), Lib.hid ((Below.refl _ _).mono hbase)⟩
  case round =>
    obtain ⟨wo, rfl⟩ : ∃ x, x = wr := ⟨_, rfl⟩
    obtain ⟨k, e, hk1, hk, he1, he2, rfl, HO, HB⟩ := hrel
    by_cases hlt : k < nl
    · have heb : e < b := by omega
      go_wp2
      go_loopw [9] (fun i wr => ∃ j q : Nat, j ≤ k ∧ q ≤ a + j ∧ a + j ≤ q ∧ i = .int .i64 q ∧ Hid (Own wr base (.slice (some ⟨g, 0, none⟩) n c) (P ++ (midR (sortR bef (L.take k)) (L.getD k 0) (L.drop (k + 1)) j ++ S))) ∧ Hid (posR bef (L.getD k 0) (sortR bef (L.take k)) k = posR bef (L.getD k 0) (sortR bef (L.take k)) j) ∧ Hid (Below base w wr)) (fun i _ => (intOf i).toNat)
      case atStart => exact ⟨k, e, by omega, by omega, by omega, rfl, Lib.hid (by
        have e := midR_start (sortR bef (L.take k)) (L.getD k 0) (L.drop (k + 1))
        rw [sortR_len bef L (by rw [HL.out]; omega)] at e
        rw [e, ← drop_eq' (by rw [HL.out]; exact hlt), ← List.append_assoc]; exact HO.out), Lib.hid rfl, HB⟩
      case round =>
        obtain ⟨j, q, hj, hq1, hq2, rfl, HOj, HP, HBj⟩ := hrel
        have hSl := sortR_len bef L (i := k) (by rw [HL.out]; omega)
        have HMA := Lib.hid (midR_at (sortR bef (L.take k)) (L.getD k 0) (L.drop (k + 1)) j (by omega))
        have HEX := Lib.hid (HLEN.out j k hj hlt)
        rcases Nat.eq_zero_or_pos j with rfl | hj0
        · have dq : decide ((a : Int) < (q : Int)) = false := by simp; omega
          have dq2 : decide (a < q) = false := by simp; omega
          go_wp2_with fail
          refine wp_region_below (by kernel_rfl) (by kernel_rfl) ?_
          repeat (go_big_quiet_step (first | (with_reducible fail)))
          refine wpQuiet_nil ?_
          intro wq hbq0
          have HBQ := Lib.hid hbq0
          clear hbq0
          have hpos : posR bef (L.getD k 0) (sortR bef (L.take k)) (sortR bef (L.take k)).length = 0 := by rw [hSl]; exact HP.out
          have HFIN := Lib.hid (midR_end bef (sortR bef (L.take k)) (L.getD k 0) (L.drop (k + 1)) 0 hpos)
          have HSU := Lib.hid (sortR_succ bef L (show k < L.length by rw [HL.out]; exact hlt))
          clear hpos
          go_wp2
          go_roundw
          case rel => exact ⟨k + 1, e + 1, by omega, by omega, by omega, by omega, by go_num, Lib.hid (by rw [HSU.out, ← HFIN.out, List.append_assoc]; exact HOj.out.below HBQ.out), Lib.hid (HBj.out.trans (HBQ.out.mono (Nat.le_trans hbase HBj.out.size)))⟩
          case measure => simp [intOf]; omega
        · obtain ⟨j, rfl⟩ : ∃ i, j = i + 1 := ⟨j - 1, by omega⟩
          obtain ⟨p, rfl⟩ : ∃ p, q = p + 1 := ⟨q - 1, by omega⟩
          have dq : decide ((a : Int) < (p : Int) + 1) = true := by simp; omega
          have dq2 : decide (a < p + 1) = true := by simp; omega
          have dq3 : a < p + 1 := by omega
          have hx : L.getD k 0 ∈ L := getD_memI (by rw [HL.out]; exact hlt)
          have hy : (sortR bef (L.take k)).getD j 0 ∈ L := mem_sortR (i := k) (by rw [HL.out]; omega) (getD_memI (by omega))
          have HPR := Lib.hid (midR_prev (sortR bef (L.take k)) (L.getD k 0) (L.drop (k + 1)) j (by omega))
          have HSW := Lib.hid (midR_swap (sortR bef (L.take k)) (L.getD k 0) (L.drop (k + 1)) j (by omega))
          have HGO := Lib.hid (fun h => posR_go (bef := bef) (x := L.getD k 0) (S := sortR bef (L.take k)) (k := j) h)
          have HST := Lib.hid (fun h => posR_stop (bef := bef) (x := L.getD k 0) (S := sortR bef (L.take k)) (k := j) h)
          have HEND := Lib.hid (fun h => midR_end bef (sortR bef (L.take k)) (L.getD k 0) (L.drop (k + 1)) (j + 1) h)
          have HSU := Lib.hid (sortR_succ bef L (show k < L.length by rw [HL.out]; exact hlt))
          have HBF := Lib.hid (HBEF.out (L.getD k 0) ((sortR bef (L.take k)).getD j 0))
          have hml := midR_len (sortR bef (L.take k)) (L.getD k 0) (L.drop (k + 1)) (j + 1) (by omega)
          have hlM := HEX.out
          obtain ⟨hxc, hfz⟩ := HOj.out.at1 hlM (by omega)
          have hP1 := HP0.out
          have E1 := pre_at P (midR (sortR bef (L.take k)) (L.getD k 0) (L.drop (k + 1)) (j + 1) ++ S) (j + 1)
          have E0 := pre_at P (midR (sortR bef (L.take k)) (L.getD k 0) (L.drop (k + 1)) (j + 1) ++ S) j
          rw [hP1, show a + (j + 1) = p + 1 by omega, getD_left (midR (sortR bef (L.take k)) (L.getD k 0) (L.drop (k + 1)) (j + 1)) S (j + 1) (by omega), HMA.out] at E1
          rw [hP1, show a + j = p by omega, getD_left (midR (sortR bef (L.take k)) (L.getD k 0) (L.drop (k + 1)) (j + 1)) S j (by omega), HPR.out] at E0
          have z1 := hxc (p + 1) (by omega)
          have z0 := hxc p (by omega)
          rw [E1] at z1
          rw [E0] at z0
          have U : Hid (((P ++ (midR (sortR bef (L.take k)) (L.getD k 0) (L.drop (k + 1)) (j + 1) ++ S)).set (p + 1) ((sortR bef (L.take k)).getD j 0)).set p (L.getD k 0) = P ++ (midR (sortR bef (L.take k)) (L.getD k 0) (L.drop (k + 1)) j ++ S)) := Lib.hid (by
            have h1 := pre_set P (midR (sortR bef (L.take k)) (L.getD k 0) (L.drop (k + 1)) (j + 1) ++ S) (j + 1) ((sortR bef (L.take k)).getD j 0)
            rw [hP1, show a + (j + 1) = p + 1 by omega, set_left (midR (sortR bef (L.take k)) (L.getD k 0) (L.drop (k + 1)) (j + 1)) S (j + 1) _ (by omega)] at h1
            have h2 := pre_set P ((midR (sortR bef (L.take k)) (L.getD k 0) (L.drop (k + 1)) (j + 1)).set (j + 1) ((sortR bef (L.take k)).getD j 0) ++ S) j (L.getD k 0)
            rw [hP1, show a + j = p by omega, set_left ((midR (sortR bef (L.take k)) (L.getD k 0) (L.drop (k + 1)) (j + 1)).set (j + 1) ((sortR bef (L.take k)).getD j 0)) S j _ (by rw [List.length_set]; omega), HSW.out] at h2
            rw [h1, h2])
          have k1 := quiet_below (w := wr) (fun W hW => HF.out _ hx _ hy W (HBj.out.trans (hW.mono (Nat.le_trans hbase HBj.out.size))))
          rw [hSl] at HEND
          have hpn : p + 1 < n := by omega
          have hpn2 : p < n := by omega
          clear hx hy hxc hfz hml E0 E1 hP1 HSW
          generalize hS : sortR bef (L.take k) = S' at *
          generalize hX : L.getD k 0 = x at *
          generalize hR : L.drop (k + 1) = rest at *
          generalize hY : S'.getD j 0 = y at *
          have hk1 := k1 0 #[]
          rcases hq : bef x y with _ | _
          · have hr : ¬ cf x y < 0 := by rw [HBF.out] at hq; exact of_decide_eq_false hq
            generalize cf x y = r at *
            go_wp2_with fail
            have c1 := cell_regrown z1
            have c0 := cell_regrown z0
            clear z0 z1
            refine wp_region_below (by kernel_rfl) (by kernel_rfl) ?_
            repeat (go_big_quiet_step (first | (with_reducible exact k1 _ _)))
            refine wpQuiet_nil ?_
            intro wq hbq0
            have HBQ := Lib.hid hbq0
            clear hbq0 c0 c1 k1 hk1
            have HFIN := Lib.hid (HEND.out (by rw [HP.out]; exact HST.out hq))
            go_wp2
            go_roundw
            case rel => exact ⟨k + 1, e + 1, by omega, by omega, by omega, by omega, by go_num, Lib.hid (by rw [HSU.out, hR, ← HFIN.out, List.append_assoc]; exact HOj.out.below HBQ.out), Lib.hid (HBj.out.trans (HBQ.out.mono (Nat.le_trans hbase HBj.out.size)))⟩
            case measure => simp [intOf]; omega
          · have hr : cf x y < 0 := by rw [HBF.out] at hq; exact of_decide_eq_true hq
            generalize cf x y = r at *
            go_wp2_with fail
            have c1 := cell_regrown z1
            have c0 := cell_regrown z0
            clear z0 z1
            refine wp_region_below (by kernel_rfl) (by kernel_rfl) ?_
            repeat (go_big_quiet_step (first | (with_reducible exact k1 _ _)))
            refine wpQuiet_nil ?_
            intro wq hbq0
            have HBQ := Lib.hid hbq0
            clear hbq0 c0 c1 k1 hk1
            have O2 := HOj.out.below HBQ.out
            have HB2 := Lib.hid (HBj.out.trans (HBQ.out.mono (Nat.le_trans hbase HBj.out.size)))
            obtain ⟨hxc, hfz⟩ := O2.at1 hlM (by omega)
            have z1 := hxc (p + 1) (by omega)
            have z0 := hxc p (by omega)
            have f1 := hfz (p + 1)
            have f0 := hfz p
            have O3 := (O2.set_ hlM (p + 1) y).1
            have hlM2 : ((P ++ (midR S' x rest (j + 1) ++ S)).set (p + 1) y).length = n := by rw [List.length_set]; exact hlM
            have O4 := Lib.hid (O3.set_ hlM2 p x).1
            rw [U.out] at O4
            have HB4 := Lib.hid ((HB2.out.setCell (p := ⟨g, p + 1, none⟩) hg.1 (.int .i64 y)).setCell (p := ⟨g, p, none⟩) hg.1 (.int .i64 x))
            have HPN := HGO.out hq
            rw [(by
              have := pre_at P (midR S' x rest (j + 1) ++ S) (j + 1)
              have hm1 := midR_len S' x rest (j + 1) (by omega)
              rw [HP0.out, show a + (j + 1) = p + 1 by omega, getD_left (midR S' x rest (j + 1)) S (j + 1) (by omega), HMA.out] at this
              exact this : (P ++ (midR S' x rest (j + 1) ++ S)).getD (p + 1) 0 = x)] at z1
            rw [(by
              have := pre_at P (midR S' x rest (j + 1) ++ S) j
              have hm1 := midR_len S' x rest (j + 1) (by omega)
              rw [HP0.out, show a + j = p by omega, getD_left (midR S' x rest (j + 1)) S j (by omega), HPR.out] at this
              exact this : (P ++ (midR S' x rest (j + 1) ++ S)).getD p 0 = y)] at z0
            clear O2 O3 hxc hfz hlM2 HSU HEND HST HGO
            go_wp2_with fail
            have hwj : IntKind.i64.wrap ((p : Nat) : Int) = (p : Int) := by rw [IntWalk.i64_left]; exact wrap64_nat p (by omega)
            have hjn2 : (p : Int) + 1 < (n : Int) := by omega
            have hjn3 : (0 : Int) ≤ (p : Int) + 1 := by omega
            go_region_law (fail)
            all_goals
              have HO5 : Hid (Own ((wq.setCell ⟨g, p + 1, none⟩ (.int .i64 y)).setCell ⟨g, p, none⟩ (.int .i64 x)).drew base (.slice (some ⟨g, 0, none⟩) n c) (P ++ (midR S' x rest j ++ S))) := O4.out
              have HB5 : Hid (Below base w ((wq.setCell ⟨g, p + 1, none⟩ (.int .i64 y)).setCell ⟨g, p, none⟩ (.int .i64 x)).drew) := ⟨HB4.out.os, HB4.out.tape, HB4.out.output, HB4.out.size, HB4.out.block⟩
              have HPJ : Hid (posR bef x S' k = posR bef x S' j) := HP.out.trans HPN
              clear z1 z0 f1 f0 hwj hjn2 hjn3
              generalize ((wq.setCell ⟨g, p + 1, none⟩ (.int .i64 y)).setCell ⟨g, p, none⟩ (.int .i64 x)).drew = w9 at HO5 HB5 ⊢
              go_wp2
              go_roundw
              case rel => exact ⟨j, p, by omega, by omega, by omega, by go_num, HO5, HPJ, HB5⟩
              case measure => simp [intOf]
    · obtain rfl : nl = k := by omega
      have e1 : L.take nl = L := List.take_of_length_le (by rw [HL.out]; exact Nat.le_refl _)
      have e2 : L.drop nl = [] := List.drop_eq_nil_of_le (by rw [HL.out]; exact Nat.le_refl _)
      rw [e1, e2, List.append_nil] at HO
      have heb : ¬ e < b := by omega
      go_wp2
      go_end0
      exact ⟨rfl, HO.out, HB.out⟩
end Go.Proofs.Ytcmpioalnpmpmaa

namespace Go.Proofs.Ytcmpioalnpmpmaa
open Go.RowKit Go.Sort
set_option maxRecDepth 100000
theorem symOk_all (F : FuncId) (caps : Array Value) (hE : Enters F) (cf : Int → Int → Int) (K : Int → Int) (A : Int → Prop) (n base g c : Nat) (w0 : World) (hn : n ≤ 1000) (hbase : base ≤ w0.heap.size) (hK : ∀ x y, A x → A y → (cf x y < 0 ↔ K x < K y))
    (hf : ∀ x y, A x → A y → ∀ w', Below base w0 w' → Calls Try.prog F (#[.int .i64 x, .int .i64 y] ++ caps) w' fun e w'' => e = .returned (.int .i64 (cf x y)) ∧ Below w'.heap.size w' w'') :
    ∀ d, SymOk F caps K A n base g c w0 d := by
  intro d
  induction d with
  | zero => intro P X Y S a m b w _ _ _ h1 h2 hd; omega
  | succ d ih =>
    intro P X Y S a m b w hP hX hY h1 h2 hd hln hl hb0 ho hAX hAY hsX hsY hxy
    by_cases e1 : m = a + 1
    · obtain ⟨x, rfl⟩ : ∃ x, X = [x] := List.length_eq_one_iff.1 (by omega)
      exact symA_any F caps hE cf K A P x Y S a m b n base g c w0 w hP e1 hY h2 hn hln hl hbase hb0 ho (hAX x (by simp)) hAY hsY (fun y hy => hxy x (by simp) y hy) hK hf
    · by_cases e2 : b = m + 1
      · obtain ⟨y, rfl⟩ : ∃ y, Y = [y] := List.length_eq_one_iff.1 (by omega)
        exact symB_any F caps hE cf K A P X y S a m b n base g c w0 w hP hX (by omega) e2 hn hln hl hbase hb0 ho (hAY y (by simp)) hAX hsX (fun x hx => hxy x hx y (by simp)) hK hf
      · exact symC_any F caps hE cf K A P X Y S a m b n base g c d w0 w hP hX hY (by omega) (by omega) hd hn hln hl hbase hb0 ho hAX hAY hsX hsY hxy hK hf ih
end Go.Proofs.Ytcmpioalnpmpmaa

namespace Go.Proofs.Ytcmpioalnpmpmaa
open Go.RowKit Go.Sort
set_option maxRecDepth 100000
/-- more than 20 and fewer than 40 -/
theorem stabMid (D : Value) (F : FuncId) (caps : Array Value) (n : Nat) (hn1 : 20 < n) (hn2 : n < 40) (w : World) (Q0 Q1 Q2 Q3 : World → Prop) (h0 : Q0 w)
    (I0 : ∀ W, Q0 W → Calls Try.prog 154 #[D, .int .i64 0, .int .i64 20, .func (.func F) #[] caps] W fun e w' => e = .returned (.tuple #[]) ∧ Q1 w')
    (I1 : ∀ W, Q1 W → Calls Try.prog 154 #[D, .int .i64 20, .int .i64 n, .func (.func F) #[] caps] W fun e w' => e = .returned (.tuple #[]) ∧ Q2 w')
    (M : ∀ W, Q2 W → Calls Try.prog 155 #[D, .int .i64 0, .int .i64 20, .int .i64 n, .func (.func F) #[] caps] W fun e w' => e = .returned (.tuple #[]) ∧ Q3 w') :
    Calls Try.prog 135 #[D, .int .i64 n, .func (.func F) #[] caps] w fun e w' => e = .returned (.tuple #[]) ∧ Q3 w' := by
  have H0 := Lib.hid h0
  have HI0 := Lib.hid I0
  have HI1 := Lib.hid I1
  have HM := Lib.hid M
  clear h0 I0 I1 M
  go_enter Try.func135, Try.ntmps135
  go_wp2
  go_loopw [7, 8] (fun a b wr => (a = .int .i64 0 ∧ b = .int .i64 20 ∧ Hid (Q0 wr)) ∨ (a = .int .i64 20 ∧ b = .int .i64 40 ∧ Hid (Q1 wr))) (fun _ b _ => 100 - (intOf b).toNat)
  case atStart => exact .inl ⟨rfl, rfl, H0⟩
  case round =>
    obtain ⟨wo, rfl⟩ : ∃ x, x = wr := ⟨_, rfl⟩
    rcases hrel with ⟨rfl, rfl, HQ⟩ | ⟨rfl, rfl, HQ⟩
    · have d0 : decide ((20 : Int) ≤ (n : Int)) = true := by simp; omega
      go_wp2_with fail
      refine (HI0.out _ HQ.out).mono ?_
      rintro e w1 ⟨rfl, hq⟩
      have HQ1 := Lib.hid hq
      clear hq
      go_wp2
      go_roundw
      case rel => exact .inr ⟨by go_num, by go_num, HQ1⟩
      case measure => simp [intOf]
    · have d0 : decide ((40 : Int) ≤ (n : Int)) = false := by simp; omega
      go_wp2_with fail
      refine (HI1.out _ HQ.out).mono ?_
      rintro e w1 ⟨rfl, hq⟩
      have HQ1 := Lib.hid hq
      clear hq
      go_wp2
      go_loopw [6] (fun i wr => (i = .int .i64 20 ∧ Hid (Q2 wr)) ∨ (i = .int .i64 40 ∧ Hid (Q3 wr))) (fun i _ => 100 - (intOf i).toNat)
      case atStart => exact .inl ⟨rfl, HQ1⟩
      case round =>
        obtain ⟨wi, rfl⟩ : ∃ x, x = wr := ⟨_, rfl⟩
        rcases hrel with ⟨rfl, HR⟩ | ⟨rfl, HR⟩
        · have d1 : decide ((20 : Int) < (n : Int)) = true := by simp; omega
          go_wp2
          go_loopw [7, 8] (fun a b wr => a = .int .i64 0 ∧ b = .int .i64 40 ∧ Hid (Q2 wr)) (fun _ _ _ => 0)
          case atStart => exact ⟨rfl, by go_num, HR⟩
          case round =>
            obtain ⟨rfl, rfl, HR2⟩ := hrel
            go_wp2_with fail
            refine (HM.out _ HR2.out).mono ?_
            rintro e w3 ⟨rfl, hq⟩
            have HQ3 := Lib.hid hq
            clear hq
            go_wp2
            go_roundw
            case rel => exact .inr ⟨by go_num, HQ3⟩
            case measure => simp [intOf]
        · have d1 : decide ((40 : Int) < (n : Int)) = false := by simp; omega
          go_wp2
          go_end0
          exact ⟨rfl, HR.out⟩
/-- 20 -/
theorem stab20 (D : Value) (F : FuncId) (caps : Array Value) (w : World) (Q0 Q1 Q2 : World → Prop) (h0 : Q0 w)
    (I0 : ∀ W, Q0 W → Calls Try.prog 154 #[D, .int .i64 0, .int .i64 20, .func (.func F) #[] caps] W fun e w' => e = .returned (.tuple #[]) ∧ Q1 w')
    (I1 : ∀ W, Q1 W → Calls Try.prog 154 #[D, .int .i64 20, .int .i64 20, .func (.func F) #[] caps] W fun e w' => e = .returned (.tuple #[]) ∧ Q2 w') :
    Calls Try.prog 135 #[D, .int .i64 20, .func (.func F) #[] caps] w fun e w' => e = .returned (.tuple #[]) ∧ Q2 w' := by
  have H0 := Lib.hid h0
  have HI0 := Lib.hid I0
  have HI1 := Lib.hid I1
  clear h0 I0 I1
  go_enter Try.func135, Try.ntmps135
  go_wp2
  go_loopw [7, 8] (fun a b wr => (a = .int .i64 0 ∧ b = .int .i64 20 ∧ Hid (Q0 wr)) ∨ (a = .int .i64 20 ∧ b = .int .i64 40 ∧ Hid (Q1 wr))) (fun _ b _ => 100 - (intOf b).toNat)
  case atStart => exact .inl ⟨rfl, rfl, H0⟩
  case round =>
    obtain ⟨wo, rfl⟩ : ∃ x, x = wr := ⟨_, rfl⟩
    rcases hrel with ⟨rfl, rfl, HQ⟩ | ⟨rfl, rfl, HQ⟩
    · go_wp2_with fail
      refine (HI0.out _ HQ.out).mono ?_
      rintro e w1 ⟨rfl, hq⟩
      have HQ1 := Lib.hid hq
      clear hq
      go_wp2
      go_roundw
      case rel => exact .inr ⟨by go_num, by go_num, HQ1⟩
      case measure => simp [intOf]
    · go_wp2_with fail
      refine (HI1.out _ HQ.out).mono ?_
      rintro e w1 ⟨rfl, hq⟩
      have HQ1 := Lib.hid hq
      clear hq
      go_wp2
      go_loopw [6] (fun i wr => i = .int .i64 20 ∧ Hid (Q2 wr)) (fun i _ => 0)
      case atStart => exact ⟨rfl, HQ1⟩
      case round =>
        obtain ⟨rfl, HR⟩ := hrel
        go_wp2
        go_end0
        exact ⟨rfl, HR.out⟩
/-- 40 -/
theorem stab40 (D : Value) (F : FuncId) (caps : Array Value) (w : World) (Q0 Q1 Q2 Q3 : World → Prop) (h0 : Q0 w)
    (I0 : ∀ W, Q0 W → Calls Try.prog 154 #[D, .int .i64 0, .int .i64 20, .func (.func F) #[] caps] W fun e w' => e = .returned (.tuple #[]) ∧ Q1 w')
    (I1 : ∀ W, Q1 W → Calls Try.prog 154 #[D, .int .i64 20, .int .i64 40, .func (.func F) #[] caps] W fun e w' => e = .returned (.tuple #[]) ∧ Q2 w')
    (I2 : ∀ W, Q2 W → Calls Try.prog 154 #[D, .int .i64 40, .int .i64 40, .func (.func F) #[] caps] W fun e w' => e = .returned (.tuple #[]) ∧ Q2 w')
    (M : ∀ W, Q2 W → Calls Try.prog 155 #[D, .int .i64 0, .int .i64 20, .int .i64 40, .func (.func F) #[] caps] W fun e w' => e = .returned (.tuple #[]) ∧ Q3 w') :
    Calls Try.prog 135 #[D, .int .i64 40, .func (.func F) #[] caps] w fun e w' => e = .returned (.tuple #[]) ∧ Q3 w' := by
  have H0 := Lib.hid h0
  have HI0 := Lib.hid I0
  have HI1 := Lib.hid I1
  have HI2 := Lib.hid I2
  have HM := Lib.hid M
  clear h0 I0 I1 I2 M
  go_enter Try.func135, Try.ntmps135
  go_wp2
  go_loopw [7, 8] (fun a b wr => (a = .int .i64 0 ∧ b = .int .i64 20 ∧ Hid (Q0 wr)) ∨ (a = .int .i64 20 ∧ b = .int .i64 40 ∧ Hid (Q1 wr)) ∨ (a = .int .i64 40 ∧ b = .int .i64 60 ∧ Hid (Q2 wr))) (fun _ b _ => 100 - (intOf b).toNat)
  case atStart => exact .inl ⟨rfl, rfl, H0⟩
  case round =>
    obtain ⟨wo, rfl⟩ : ∃ x, x = wr := ⟨_, rfl⟩
    rcases hrel with ⟨rfl, rfl, HQ⟩ | ⟨rfl, rfl, HQ⟩ | ⟨rfl, rfl, HQ⟩
    · go_wp2_with fail
      refine (HI0.out _ HQ.out).mono ?_
      rintro e w1 ⟨rfl, hq⟩
      have HQ1 := Lib.hid hq
      clear hq
      go_wp2
      go_roundw
      case rel => exact .inr (.inl ⟨by go_num, by go_num, HQ1⟩)
      case measure => simp [intOf]
    · go_wp2_with fail
      refine (HI1.out _ HQ.out).mono ?_
      rintro e w1 ⟨rfl, hq⟩
      have HQ1 := Lib.hid hq
      clear hq
      go_wp2
      go_roundw
      case rel => exact .inr (.inr ⟨by go_num, by go_num, HQ1⟩)
      case measure => simp [intOf]
    · go_wp2_with fail
      refine (HI2.out _ HQ.out).mono ?_
      rintro e w1 ⟨rfl, hq⟩
      have HQ1 := Lib.hid hq
      clear hq
      go_wp2
      go_loopw [6] (fun i wr => (i = .int .i64 20 ∧ Hid (Q2 wr)) ∨ (i = .int .i64 40 ∧ Hid (Q3 wr))) (fun i _ => 100 - (intOf i).toNat)
      case atStart => exact .inl ⟨rfl, HQ1⟩
      case round =>
        obtain ⟨wi, rfl⟩ : ∃ x, x = wr := ⟨_, rfl⟩
        rcases hrel with ⟨rfl, HR⟩ | ⟨rfl, HR⟩
        · go_wp2
          go_loopw [7, 8] (fun a b wr => (a = .int .i64 0 ∧ b = .int .i64 40 ∧ Hid (Q2 wr)) ∨ (a = .int .i64 40 ∧ b = .int .i64 80 ∧ Hid (Q3 wr))) (fun _ b _ => 100 - (intOf b).toNat)
          case atStart => exact .inl ⟨rfl, by go_num, HR⟩
          case round =>
            obtain ⟨wj, rfl⟩ : ∃ x, x = wr := ⟨_, rfl⟩
            rcases hrel with ⟨rfl, rfl, HR2⟩ | ⟨rfl, rfl, HR2⟩
            · go_wp2_with fail
              refine (HM.out _ HR2.out).mono ?_
              rintro e w3 ⟨rfl, hq⟩
              have HQ3 := Lib.hid hq
              clear hq
              go_wp2
              go_roundw
              case rel => exact .inr ⟨by go_num, by go_num, HQ3⟩
              case measure => simp [intOf]
            · go_wp2
              go_roundw
              case rel => exact .inr ⟨by go_num, HR2⟩
              case measure => simp [intOf]
        · go_wp2
          go_end0
          exact ⟨rfl, HR.out⟩
/-- none -/
theorem stab0 (D : Value) (F : FuncId) (caps : Array Value) (w : World) (Q0 Q1 : World → Prop) (h0 : Q0 w)
    (I0 : ∀ W, Q0 W → Calls Try.prog 154 #[D, .int .i64 0, .int .i64 0, .func (.func F) #[] caps] W fun e w' => e = .returned (.tuple #[]) ∧ Q1 w') :
    Calls Try.prog 135 #[D, .int .i64 0, .func (.func F) #[] caps] w fun e w' => e = .returned (.tuple #[]) ∧ Q1 w' := by
  have H0 := Lib.hid h0
  have HI0 := Lib.hid I0
  clear h0 I0
  go_enter Try.func135, Try.ntmps135
  go_wp2
  go_loopw [7, 8] (fun a b wr => a = .int .i64 0 ∧ b = .int .i64 20 ∧ Hid (Q0 wr)) (fun _ _ _ => 0)
  case atStart => exact ⟨rfl, rfl, H0⟩
  case round =>
    obtain ⟨rfl, rfl, HQ⟩ := hrel
    go_wp2_with fail
    refine (HI0.out _ HQ.out).mono ?_
    rintro e w1 ⟨rfl, hq⟩
    have HQ1 := Lib.hid hq
    clear hq
    go_wp2
    go_loopw [6] (fun i wr => i = .int .i64 20 ∧ Hid (Q1 wr)) (fun i _ => 0)
    case atStart => exact ⟨rfl, HQ1⟩
    case round =>
      obtain ⟨rfl, HR⟩ := hrel
      go_wp2
      go_end0
      exact ⟨rfl, HR.out⟩
/-- slices.SortStableFunc of a row of at most 40 elements that rise: sorted by the key -/
theorem sort40_any (F : FuncId) (caps : Array Value) (hE : Enters F) (cf : Int → Int → Int) (K : Int → Int) (L : List Int) (n base g c : Nat) (w : World) (hl : L.length = n) (hn : n ≤ 40) (hL : L.Pairwise (· < ·)) (hc : c ≤ 4611686018427387904) (hnc : n ≤ c) (hbase : base ≤ w.heap.size)
    (h : Own w base (.slice (some ⟨g, 0, none⟩) n c) L)
    (hK : ∀ x ∈ L, ∀ y ∈ L, (cf x y < 0 ↔ K x < K y))
    (hf : ∀ x ∈ L, ∀ y ∈ L, ∀ w', Below base w w' → Calls Try.prog F (#[.int .i64 x, .int .i64 y] ++ caps) w' fun e w'' => e = .returned (.int .i64 (cf x y)) ∧ Below w'.heap.size w' w'') :
    Calls Try.prog 135 #[.slice (some ⟨g, 0, none⟩) n c, .int .i64 n, .func (.func F) #[] caps] w fun e w' => e = .returned (.tuple #[]) ∧ ∃ M, M.Perm L ∧ M.Pairwise (LtK K) ∧ Own w' base (.slice (some ⟨g, 0, none⟩) n c) M ∧ Below base w w' := by
  have hb : ∀ M : List Int, (∀ x ∈ M, x ∈ L) → M.Pairwise (· < ·) → (sortR (fun x y => decide (cf x y < 0)) M).Pairwise (LtK K) ∧ (sortR (fun x y => decide (cf x y < 0)) M).Perm M := fun M hM hp => sortR_sorted M (fun x hx y hy => by rw [decide_eq_decide]; exact hK x (hM x hx) y (hM y hy)) hp
  have hfb : ∀ W, Below base w W → ∀ x ∈ L, ∀ y ∈ L, ∀ w', Below base W w' → Calls Try.prog F (#[.int .i64 x, .int .i64 y] ++ caps) w' fun e w'' => e = .returned (.int .i64 (cf x y)) ∧ Below w'.heap.size w' w'' := fun W hW x hx y hy w' hw' => hf x hx y hy w' (hW.trans hw')
  rcases Nat.eq_zero_or_pos n with h0 | h0
  · subst h0
    refine (stab0 (.slice (some ⟨g, 0, none⟩) 0 c) F caps w (fun W => W = w) (fun W => W = w) rfl (fun W hW => ?_)).mono ?_
    · subst hW
      exact insSortE_any (.func (.func F) #[] caps) 0 0 0 g c W (by omega) (by omega)
    · rintro e w' ⟨rfl, rfl⟩
      have : L = [] := List.eq_nil_of_length_eq_zero hl
      subst this
      exact ⟨rfl, [], .refl _, .nil, h, (Below.refl _ _).mono hbase⟩
  rcases Nat.lt_or_ge n 20 with h1 | h1
  · refine (stable_any F caps hE cf L n base g c w hl h1 hc hnc h0 hbase h hf).mono ?_
    rintro e w' ⟨rfl, ho, hbl⟩
    obtain ⟨p1, p2⟩ := hb L (fun x hx => hx) hL
    exact ⟨rfl, _, p2, p1, ho, hbl⟩
  · obtain ⟨X, hX⟩ : ∃ X, X = L.take 20 := ⟨_, rfl⟩
    obtain ⟨Y, hY⟩ : ∃ Y, Y = L.drop 20 := ⟨_, rfl⟩
    have eL : L = X ++ Y := by rw [hX, hY, List.take_append_drop]
    have lX : X.length = 20 := by rw [hX, List.length_take]; omega
    have lY : 20 + Y.length = n := by rw [hY, List.length_drop]; omega
    have mX : ∀ x ∈ X, x ∈ L := fun x hx => by rw [eL]; exact List.mem_append_left _ hx
    have mY : ∀ x ∈ Y, x ∈ L := fun x hx => by rw [eL]; exact List.mem_append_right _ hx
    rw [eL, List.pairwise_append] at hL
    obtain ⟨x1, x2⟩ := hb X mX hL.1
    obtain ⟨y1, y2⟩ := hb Y mY hL.2.1
    have I0 : ∀ W, (Below base w W ∧ Own W base (.slice (some ⟨g, 0, none⟩) n c) (X ++ Y)) → Calls Try.prog 154 #[.slice (some ⟨g, 0, none⟩) n c, .int .i64 0, .int .i64 20, .func (.func F) #[] caps] W fun e w' => e = .returned (.tuple #[]) ∧ (Below base w w' ∧ Own w' base (.slice (some ⟨g, 0, none⟩) n c) (sortR (fun x y => decide (cf x y < 0)) X ++ Y)) := fun W ⟨hB, hO⟩ => by
      refine (insSortO_any F caps hE cf [] X Y 0 20 n 20 base g c W rfl lX (by omega) (by simp; omega) (by omega) (by omega) (by omega) (by have := hB.size; omega) hO (fun x hx y hy => hfb W hB x (mX x hx) y (mX y hy))).mono ?_
      rintro e w' ⟨rfl, ho, hbl⟩
      exact ⟨rfl, hB.trans hbl, by simpa using ho⟩
    have I1 : ∀ W, (Below base w W ∧ Own W base (.slice (some ⟨g, 0, none⟩) n c) (sortR (fun x y => decide (cf x y < 0)) X ++ Y)) → Calls Try.prog 154 #[.slice (some ⟨g, 0, none⟩) n c, .int .i64 20, .int .i64 n, .func (.func F) #[] caps] W fun e w' => e = .returned (.tuple #[]) ∧ (Below base w w' ∧ Own w' base (.slice (some ⟨g, 0, none⟩) n c) (sortR (fun x y => decide (cf x y < 0)) X ++ sortR (fun x y => decide (cf x y < 0)) Y)) := fun W ⟨hB, hO⟩ => by
      rcases Nat.eq_zero_or_pos Y.length with hy0 | hy0
      · refine (insSortE_any (.func (.func F) #[] caps) 20 n n g c W (by omega) (by omega)).mono ?_
        rintro e w' ⟨rfl, rfl⟩
        have : Y = [] := List.eq_nil_of_length_eq_zero hy0
        subst this
        exact ⟨rfl, hB, hO⟩
      · refine (insSortO_any F caps hE cf (sortR (fun x y => decide (cf x y < 0)) X) Y [] 20 n n Y.length base g c W (by rw [x2.length_eq, lX]) rfl (by omega) (by simp [x2.length_eq]; omega) (by omega) (by omega) (by omega) (by have := hB.size; omega) (by simpa using hO) (fun x hx y hy => hfb W hB x (mY x hx) y (mY y hy))).mono ?_
        rintro e w' ⟨rfl, ho, hbl⟩
        exact ⟨rfl, hB.trans hbl, by simpa using ho⟩
    rcases Nat.eq_or_lt_of_le h1 with h2 | h2
    · subst h2
      refine (stab20 _ F caps w _ _ _ ⟨(Below.refl _ _).mono hbase, eL ▸ h⟩ I0 I1).mono ?_
      rintro e w' ⟨rfl, hB, hO⟩
      have : Y = [] := List.eq_nil_of_length_eq_zero (by omega)
      subst this
      rw [show sortR (fun x y => decide (cf x y < 0)) [] = [] from rfl, List.append_nil] at hO
      exact ⟨rfl, _, by rw [eL, List.append_nil]; exact x2, x1, hO, hB⟩
    · have MM : ∀ W, (Below base w W ∧ Own W base (.slice (some ⟨g, 0, none⟩) n c) (sortR (fun x y => decide (cf x y < 0)) X ++ sortR (fun x y => decide (cf x y < 0)) Y)) → Calls Try.prog 155 #[.slice (some ⟨g, 0, none⟩) n c, .int .i64 0, .int .i64 20, .int .i64 n, .func (.func F) #[] caps] W fun e w' => e = .returned (.tuple #[]) ∧ (Below base w w' ∧ ∃ M, M.Perm L ∧ M.Pairwise (LtK K) ∧ Own w' base (.slice (some ⟨g, 0, none⟩) n c) M) := fun W ⟨hB, hO⟩ => by
        refine (symOk_all F caps hE cf K (· ∈ L) n base g c W (by omega) (by have := hB.size; omega) (fun x y hx hy => hK x hx y hy) (fun x y hx hy w' hw' => hfb W hB x hx y hy w' hw') 40 [] (sortR (fun x y => decide (cf x y < 0)) X) (sortR (fun x y => decide (cf x y < 0)) Y) [] 0 20 n W rfl (by rw [x2.length_eq, lX]) (by rw [y2.length_eq]; exact lY) (by omega) (by omega) (by omega) (by omega) (by simp [x2.length_eq, y2.length_eq]; omega) ((Below.refl _ _).mono (by have := hB.size; omega)) (by simpa using hO) (fun x hx => mX x (x2.mem_iff.1 hx)) (fun y hy => mY y (y2.mem_iff.1 hy)) x1 y1 (fun x hx y hy => hL.2.2 x (x2.mem_iff.1 hx) y (y2.mem_iff.1 hy))).mono ?_
        rintro e w' ⟨rfl, M, hp, hs, ho, hbl⟩
        exact ⟨rfl, hB.trans hbl, M, by rw [eL]; exact hp.trans (x2.append y2), hs, by simpa using ho⟩
      rcases Nat.lt_or_ge n 40 with h3 | h3
      · refine (stabMid _ F caps n h2 h3 w _ _ _ _ ⟨(Below.refl _ _).mono hbase, eL ▸ h⟩ I0 I1 MM).mono ?_
        rintro e w' ⟨rfl, hB, M, hp, hs, ho⟩
        exact ⟨rfl, M, hp, hs, ho, hB⟩
      · obtain rfl : n = 40 := by omega
        refine (stab40 _ F caps w _ _ _ _ ⟨(Below.refl _ _).mono hbase, eL ▸ h⟩ I0 I1 (fun W ⟨hB, hO⟩ => ?_) MM).mono ?_
        · refine (insSortE_any (.func (.func F) #[] caps) 40 40 40 g c W (by omega) (by omega)).mono ?_
          rintro e w' ⟨rfl, rfl⟩
          exact ⟨rfl, hB, hO⟩
        · rintro e w' ⟨rfl, hB, M, hp, hs, ho⟩
          exact ⟨rfl, M, hp, hs, ho, hB⟩
end Go.Proofs.Ytcmpioalnpmpmaa

namespace Go.Proofs.Ytcmpioalnpmpmaa
open Go.RowKit Go.Sort
set_option maxRecDepth 100000
noncomputable def obL (xs : List Int) : List Int := if 40 < xs.length then [] else ordK xs xs.length
theorem obL_len (xs : List Int) : (obL xs).length ≤ 40 := by
  unfold obL
  split
  · simp
  · rw [ordK_len]; omega
theorem cmpC_lt (x y : Int) : cmpC x y < 0 ↔ x < y := by
  unfold cmpC
  by_cases h1 : x < y
  · simp [h1]
  · rw [if_neg h1]
    by_cases h2 : y < x <;> simp [h2, h1]
set_option maxHeartbeats 2000000 in
theorem indices_zero (w : World) :
    Calls Try.prog 80 #[.int .i64 0] w fun e w' => e = .returned (.slice (some ⟨w.heap.size, 0, none⟩) 0 0) ∧ Own w' w.heap.size (.slice (some ⟨w.heap.size, 0, none⟩) 0 0) [] ∧ Below w.heap.size w w' := by
  obtain ⟨i0, hi, hz0, hz1, hz2⟩ := info_parts i64_info
  go_enter Try.func80, Try.ntmps80
  go_wp2_with (at_make; refine wpList_make_full _ rfl _ _ 23 rfl w.heap.size 3 i0 (.int .i64 0) 1 Try.underlying23 hi hz0 hz1 _ _ _ _ 0 rfl rfl rfl rfl (by rw [hz2]; omega) (by unfold maxLen; omega) (Nat.le_refl _) ?_; intro w1 hown hg1; have HB1 := Lib.hid ((Below.refl w.heap.size w).grown hg1 (Nat.le_refl _) (by simp)); have HOWN := Lib.hid hown; clear hown hg1)
  have HO1 : Hid (Own w1 w.heap.size (.slice (some ⟨w.heap.size, 0, none⟩) 0 0) (List.replicate 0 0)) := by
    have ho := HOWN.out
    rw [ints_made'] at ho
    unfold Hid Own
    rw [List.length_replicate]
    exact ho
  clear HOWN
  go_loopw [9] (fun i wr => i = .int .i64 0 ∧ wr = w1) (fun i _ => 0)
  case atStart => exact ⟨rfl, rfl⟩
  case round =>
    obtain ⟨rfl, rfl⟩ := hrel
    go_wp2
    go_ret
    exact ⟨rfl, HO1.out, HB1.out⟩
theorem indices40 (n : Nat) (hn : n ≤ 40) (w : World) :
    Calls Try.prog 80 #[.int .i64 n] w fun e w' => e = .returned (.slice (some ⟨w.heap.size, 0, none⟩) n n) ∧ Own w' w.heap.size (.slice (some ⟨w.heap.size, 0, none⟩) n n) (idxL n) ∧ Below w.heap.size w w' := by
  rcases Nat.eq_zero_or_pos n with h | h
  · subst h
    exact indices_zero w
  · exact indices_any n (by omega) w h
theorem sort40s_any (F : FuncId) (caps : Array Value) (hE : Enters F) (cf : Int → Int → Int) (K : Int → Int) (L : List Int) (n base g c : Nat) (w : World) (hl : L.length = n) (hn : n ≤ 40) (hL : L.Pairwise (· < ·)) (hc : c ≤ 4611686018427387904) (hnc : n ≤ c) (hbase : base ≤ w.heap.size)
    (h : Own w base (.slice (some ⟨g, 0, none⟩) n c) L)
    (hK : ∀ x ∈ L, ∀ y ∈ L, (cf x y < 0 ↔ K x < K y))
    (hf : ∀ x ∈ L, ∀ y ∈ L, ∀ w', Below base w w' → Calls Try.prog F (#[.int .i64 x, .int .i64 y] ++ caps) w' fun e w'' => e = .returned (.int .i64 (cf x y)) ∧ Below w'.heap.size w' w'') :
    Calls Try.prog 81 #[.slice (some ⟨g, 0, none⟩) n c, .func (.func F) #[] caps] w fun e w' => e = .returned (.tuple #[]) ∧ ∃ M, M.Perm L ∧ M.Pairwise (LtK K) ∧ Own w' base (.slice (some ⟨g, 0, none⟩) n c) M ∧ Below base w w' := by
  have HI := Lib.hid (sort40_any F caps hE cf K L n base g c w hl hn hL hc hnc hbase h hK hf)
  clear h hf hK
  go_enter Try.func81, Try.ntmps81
  go_wp2_with fail
  refine HI.out.mono ?_
  rintro e w1 ⟨rfl, M, hp, hs, ho, hb⟩
  have HP := Lib.hid hp
  have HS := Lib.hid hs
  have HO := Lib.hid ho
  have HB := Lib.hid hb
  clear ho hb hp hs
  go_wp2
  go_end0
  exact ⟨rfl, M, HP.out, HS.out, HO.out, HB.out⟩
set_option maxHeartbeats 2000000 in
theorem implOrderBy (v : Value) (L : List Int) (w : World) (h : Rd w v L) :
    Calls Try.prog 18 #[v] w fun e w' => ∃ v', e = .returned v' ∧ Own w' w.heap.size v' (obL L) ∧ Below w.heap.size w w' := by
  have HR := Lib.hid h
  obtain ⟨A, c, rfl, -, hm, -⟩ := h
  unfold maxLen at hm
  have HOB : Hid (obL L = if 40 < L.length then [] else ordK L L.length) := rfl
  generalize hn : L.length = n at *
  have HN := Lib.hid hn
  clear hn
  have hE : Enters 82 := fun args W => by kernel_rfl
  go_enter Try.func18, Try.ntmps18
  have b0 := below_alloc1 w (.cells #[.slice A n c] 23)
  have z0 : (w.alloc (.cells #[.slice A n c] 23)).cell? ⟨w.heap.size, 0, none⟩ = some (.slice A n c) := by simp
  have HB0 := Lib.hid b0
  have HZ0 := Lib.hid z0
  clear b0
  by_cases hlt : 40 < n
  · go_wp2
    go_ret
    exact ⟨_, rfl, by rw [HOB.out, if_pos hlt]; exact Own.nil_ _ _, HB0.out⟩
  · go_wp2_with fail
    refine (indices40 n (by omega) _).mono ?_
    rintro e w4 ⟨rfl, ho4, hb4⟩
    generalize w.alloc (.cells #[.slice A n c] 23) = w3 at *
    have HO4 := Lib.hid ho4
    have HB4 := Lib.hid hb4
    clear ho4 hb4 z0
    go_wp2_with fail
    refine (sort40s_any 82 #[.pointer (some ⟨w.heap.size, 0, none⟩)] hE (fun x y => cmpC (L.getD y.toNat 0) (L.getD x.toNat 0)) (kOf L) (idxL n) n w3.heap.size w3.heap.size n w4 (idxL_len n) (by omega) (by rw [idx_ids]; exact idsL_lt n) (by omega) (Nat.le_refl _) HB4.out.size HO4.out (fun x _ y _ => by rw [cmpC_lt]; unfold kOf; omega) (fun x hx y hy W hW => by
      obtain ⟨a, ha, rfl⟩ := idxL_mem hx
      obtain ⟨b, hb, rfl⟩ := idxL_mem hy
      have hWW : Below w3.heap.size w3 W := HB4.out.trans hW
      exact ord1_any L _ w.heap.size a b W ((hWW.cell (p := ⟨w.heap.size, 0, none⟩) (World.block_lt_of_cell? _ _ HZ0.out)).trans HZ0.out) (HR.out.below (Below.then HB0.out hWW)) (by rw [HN.out]; exact ha) (by rw [HN.out]; exact hb))).mono ?_
    rintro e w5 ⟨rfl, M, hp, hs, ho5, hb5⟩
    have HE : Hid (M = ordK L n) := Lib.hid (ltK_unique hs (ordK_sorted L n).1 (hp.trans (by rw [idx_ids]; exact (ordK_sorted L n).2.symm)))
    have HO5 := Lib.hid ho5
    have HB5 := Lib.hid (HB4.out.trans hb5)
    clear ho5 hb5 hp hs
    go_wp2
    go_ret
    exact ⟨_, rfl, by rw [HOB.out, if_neg hlt, ← HE.out]; exact HO5.out.mono HB0.out.size, Below.then HB0.out HB5.out⟩
end Go.Proofs.Ytcmpioalnpmpmaa

namespace Go.Proofs.Ytcmpioalnpmpmaa
open Go.RowKit Go.Sort
set_option maxRecDepth 100000
theorem rows_info : (Try.prog.info? 23).map (fun i => (i.zero, i.size, i.bytes)) = some (some (.slice none 0 0), 1, 24) := by kernel_rfl
theorem ownsRow_below {w w' : World} {base size n : Nat} {e : TypeId} {v : Value} {xs : List Value} (h : w.ownsRow base e size v n xs) (hb : Below w.heap.size w w') : w'.ownsRow base e size v n xs := by
  refine ⟨h.1, ?_⟩
  rcases h.2 with h0 | ⟨g, cap, cur, hv, hg, hh, r⟩
  · exact .inl h0
  · exact .inr ⟨g, cap, cur, hv, hg, by rw [hb.block g (Array.getElem?_eq_some_iff.1 hh).1]; exact hh, r⟩
theorem ownsRow_mono {w : World} {base b' size n : Nat} {e : TypeId} {v : Value} {xs : List Value} (h : w.ownsRow base e size v n xs) (hb : b' ≤ base) : w.ownsRow b' e size v n xs := by
  refine ⟨h.1, ?_⟩
  rcases h.2 with h0 | ⟨g, cap, cur, hv, hg, r⟩
  · exact .inl h0
  · exact .inr ⟨g, cap, cur, hv, by omega, r⟩
/-- rows of different element types lie in different blocks -/
theorem types_part {w : World} {b1 b2 s1 s2 n1 n2 : Nat} {e1 e2 : TypeId} {v1 v2 : Value} {x1 x2 : List Value} (h1 : w.ownsRow b1 e1 s1 v1 n1 x1) (h2 : w.ownsRow b2 e2 s2 v2 n2 x2) (hne : e1 ≠ e2) : v1.ownBlock = none ∨ v1.ownBlock ≠ v2.ownBlock := by
  rcases h1.2 with ⟨rfl, _⟩ | ⟨g1, c1, cur1, rfl, _, hg1, _⟩
  · exact .inl rfl
  · right
    rcases h2.2 with ⟨rfl, _⟩ | ⟨g2, c2, cur2, rfl, _, hg2, _⟩
    · simp [Value.ownBlock]
    · intro e
      simp only [Value.ownBlock, Option.some.injEq] at e
      subst e
      rw [hg1] at hg2
      simp only [Option.some.injEq, Obj.cells.injEq] at hg2
      exact hne hg2.2.1
theorem apart_symm' {a b : Option Nat} (h : a = none ∨ a ≠ b) : b = none ∨ b ≠ a := by
  rcases h with h | h
  · subst h; cases b <;> simp
  · exact .inr (Ne.symm h)
def OwnRowsU (w : World) (base : Nat) (v : Value) (us : List Value) (rows : List (List Int)) : Prop :=
  us.length = rows.length ∧ w.ownsRow base 23 1 v rows.length us ∧ (∀ k, k < rows.length → Own w base (us.getD k (.slice none 0 0)) (rows.getD k [])) ∧
    ∀ i j, i < j → j < rows.length → (us.getD i (.slice none 0 0)).ownBlock = none ∨ (us.getD i (.slice none 0 0)).ownBlock ≠ (us.getD j (.slice none 0 0)).ownBlock
def OwnRows (w : World) (base : Nat) (v : Value) (rows : List (List Int)) : Prop := ∃ us : List Value, OwnRowsU w base v us rows
theorem OwnRows.nil_ (w : World) (base : Nat) : OwnRows w base (.slice none 0 0) [] := ⟨[], rfl, World.ownsRow_nil _ _ _ _, fun k h => absurd h (by simp), fun i j _ h => absurd h (by simp)⟩
theorem OwnRows.lit0 (w : World) (base : Nat) (hb : base ≤ w.heap.size) : OwnRows (w.alloc (.cells #[] 23)) base (.slice (some ⟨w.heap.size, 0, none⟩) 0 0) [] := by
  have := World.ownsRow_lit (e := 23) (size := 1) w #[] 0 hb (by unfold maxLen; omega) (by simp)
  exact ⟨[], rfl, by simpa using this, fun k h => absurd h (by simp), fun i j _ h => absurd h (by simp)⟩
theorem OwnRowsU.below {w w' : World} {base : Nat} {v : Value} {us : List Value} {rows : List (List Int)} (h : OwnRowsU w base v us rows) (hb : Below w.heap.size w w') : OwnRowsU w' base v us rows := by
  obtain ⟨hl, ho, hr, hd⟩ := h
  exact ⟨hl, ownsRow_below ho hb, fun k hk => (hr k hk).below hb, hd⟩
theorem OwnRows.below {w w' : World} {base : Nat} {v : Value} {rows : List (List Int)} (h : OwnRows w base v rows) (hb : Below w.heap.size w w') : OwnRows w' base v rows := by
  obtain ⟨us, h⟩ := h
  exact ⟨us, h.below hb⟩
theorem OwnRows.mono {w : World} {base b' : Nat} {v : Value} {rows : List (List Int)} (h : OwnRows w base v rows) (hb : b' ≤ base) : OwnRows w b' v rows := by
  obtain ⟨us, hl, ho, hr, hd⟩ := h
  exact ⟨us, hl, ownsRow_mono ho hb, fun k hk => (hr k hk).mono hb, hd⟩
/-- a change of one block that is not among these rows: one that is older than all of them -/
theorem OwnRows.kept_lo {w w' : World} {base : Nat} {v : Value} {rows : List (List Int)} (h : OwnRows w base v rows) {row : Option Nat} (hg : w.grownBy w' row) (hlt : ∀ g, row = some g → g < base) : OwnRows w' base v rows := by
  obtain ⟨us, hl, ho, hr, hd⟩ := h
  have key : ∀ {u : Value}, (∀ k, u.ownBlock = some k → base ≤ k ∧ k < w.heap.size) → u.ownBlock = none ∨ u.ownBlock ≠ row := by
    intro u hu
    rcases q : u.ownBlock with _ | k
    · exact .inl rfl
    · right
      intro e
      have := (hu k q).1
      have := hlt k e.symm
      omega
  exact ⟨us, hl, World.ownsRow.kept ho hg (key (World.ownsRow.lt ho)), fun k hk => (hr k hk).kept hg (key (hr k hk).lt), hd⟩
theorem OwnRows.lt {w : World} {base : Nat} {v : Value} {rows : List (List Int)} (h : OwnRows w base v rows) : ∀ k, v.ownBlock = some k → base ≤ k ∧ k < w.heap.size := by
  obtain ⟨us, hl, ho, hr, hd⟩ := h
  exact World.ownsRow.lt ho
/-- a row is changed in place -/
theorem OwnRowsU.row {w w' : World} {base : Nat} {v : Value} {us : List Value} {rows : List (List Int)} (h : OwnRowsU w base v us rows) {i : Nat} {ys : List Int} (hi : i < rows.length)
    (ho' : Own w' base (us.getD i (.slice none 0 0)) ys) (hg : w.grownBy w' (us.getD i (.slice none 0 0)).ownBlock) : OwnRowsU w' base v us (rows.set i ys) := by
  obtain ⟨hl, ho, hr, hd⟩ := h
  refine ⟨by simp [hl], ?_, fun k hk => ?_, fun a b hab hb => hd a b hab (by simpa using hb)⟩
  · rw [List.length_set]
    exact World.ownsRow.kept ho hg (apart_symm' (types_part (hr i hi) ho (by decide)))
  · rw [List.length_set] at hk
    by_cases hik : i = k
    · subst hik
      rw [show (rows.set i ys).getD i [] = ys by simp [List.getD_eq_getElem?_getD, hk]]
      exact ho'
    · rw [show (rows.set i ys).getD k [] = rows.getD k [] by simp [List.getD_eq_getElem?_getD, List.getElem?_set_ne hik]]
      refine (hr k hk).kept hg ?_
      rcases Nat.lt_or_gt_of_ne hik with h1 | h1
      · exact apart_symm' (hd i k h1 hk)
      · exact hd k i h1 hi
theorem OwnRows.form {w : World} {base : Nat} {v : Value} {rows : List (List Int)} (h : OwnRows w base v rows) : ∃ A c, v = .slice A rows.length c ∧ c ≤ maxLen ∧ rows.length ≤ c ∧
    (0 < rows.length → ∃ g, A = some ⟨g, 0, none⟩ ∧ g < w.heap.size ∧ ∀ k, k < rows.length → ∃ (B : Option Addr) (d : Nat), w.cell? ⟨g, k, none⟩ = some (.slice B (rows.getD k []).length d) ∧ Own w base (.slice B (rows.getD k []).length d) (rows.getD k [])) := by
  obtain ⟨us, hl, ho, hr, -⟩ := h
  have hlt := World.ownsRow.lt ho
  have hc := fun g hg => World.ownsRow.cells ho (g := g) hg
  rcases ho.2 with ⟨rfl, e⟩ | ⟨g, cap, cur, rfl, hb, hg, hle, hm, _⟩
  · exact ⟨none, 0, by rw [e], by unfold maxLen; omega, by omega, fun h => absurd h (by omega)⟩
  · refine ⟨_, cap, rfl, hm, hle, fun _ => ⟨g, rfl, (hlt g rfl).2, fun k hk => ?_⟩⟩
    have h1 := hc g rfl k (us.getD k (.slice none 0 0)) (by simp [show k < us.length by omega])
    rw [Addr.add_lit, Nat.zero_add] at h1
    have h2 := hr k hk
    obtain ⟨B, d, e, _⟩ := h2.form
    rw [e] at h1 h2
    exact ⟨B, d, h1, h2⟩
def RdRows (w : World) (v : Value) (rows : List (List Int)) : Prop := ∃ A c, v = .slice A rows.length c ∧ c ≤ maxLen ∧ rows.length ≤ c ∧
    (0 < rows.length → ∃ g, A = some ⟨g, 0, none⟩ ∧ g < w.heap.size ∧ ∀ k, k < rows.length → ∃ u, w.cell? ⟨g, k, none⟩ = some u ∧ Rd w u (rows.getD k []))
theorem OwnRows.rdr {w : World} {base : Nat} {v : Value} {rows : List (List Int)} (h : OwnRows w base v rows) : RdRows w v rows := by
  obtain ⟨A, c, rfl, hc, hl, hx⟩ := h.form
  refine ⟨A, c, rfl, hc, hl, fun h0 => ?_⟩
  obtain ⟨g, rfl, hg, hk⟩ := hx h0
  refine ⟨g, rfl, hg, fun k hkl => ?_⟩
  obtain ⟨B, d, h1, h2⟩ := hk k hkl
  exact ⟨_, h1, h2.rd⟩
theorem RdRows.below {w w' : World} {v : Value} {rows : List (List Int)} (h : RdRows w v rows) (hb : Below w.heap.size w w') : RdRows w' v rows := by
  obtain ⟨A, c, rfl, hc, hl, hx⟩ := h
  refine ⟨A, c, rfl, hc, hl, fun h0 => ?_⟩
  obtain ⟨g, rfl, hg, hk⟩ := hx h0
  refine ⟨g, rfl, Nat.lt_of_lt_of_le hg hb.size, fun k hkl => ?_⟩
  obtain ⟨u, h1, h2⟩ := hk k hkl
  exact ⟨u, by rw [hb.cell (p := ⟨g, k, none⟩) hg]; exact h1, h2.below hb⟩
theorem wp_append1V {ops : Array Oper} {rest : List Oper} {o : Oper} {a : Act} {Q : Exit → Act → World → Prop} (w : World) (hgd : o.guard = none) (s x : Operand)
    (ho : o.op = .call { callee := .builtin .append, args := #[s, x], argTypes := #[34, 34] })
    (base : Nat) (v : Value) (rows : List (List Int)) (u : Value) (xs : List Int) (w0 : World) (hs : a.eval s = v) (hown0 : OwnRows w0 base v rows) (hb0 : Below w0.heap.size w0 w) (hu0 : Own w w0.heap.size u xs) (hbase0 : base ≤ w0.heap.size) (hx : a.eval x = .slice (some ⟨w.heap.size, 0, none⟩) 1 1)
    (hlen : rows.length ≤ 1048576)
    (h : ∀ v' w', OwnRows w' base v' (rows ++ [xs]) → w.grownBy w' v.ownBlock → wpList Try.prog ops Q rest (a.put o.dst v') w') :
    wpList Try.prog ops Q (o :: rest) a (w.alloc (.cells #[u] 23)) := by
  obtain ⟨i0, hi, hz0, hz1, hz2⟩ := info_parts rows_info
  have hu := hu0.mono hbase0
  have hbase : base ≤ w.heap.size := Nat.le_trans hbase0 hb0.size
  obtain ⟨us, hown0⟩ := hown0
  have hlt0 : ∀ k, k < rows.length → ∀ g, (us.getD k (.slice none 0 0)).ownBlock = some g → g < w0.heap.size := fun k hk g hg => ((hown0.2.2.1 k hk).lt g hg).2
  obtain ⟨hl, hor, hr, hd⟩ := hown0.below hb0
  have hor' : (w.alloc (.cells #[u] 23)).ownsRow base 23 1 v rows.length us := World.ownsRow.alloc hor _
  refine wpList_append_own _ hgd s x 34 ho base 23 i0 (.slice none 0 0) 1 24 Try.underlying34 hi hz0 hz1 hz2 rfl (by decide) v rows.length us hs hor' ⟨w.heap.size, 0, none⟩ 1 1 [u] hx rfl ?_ ?_ ?_ ?_ ?_ ?_
  · intro j y hj
    match j, hj with
    | 0, hj => simp at hj; subst hj; simp [Addr.add]
  · intro y hy
    simp at hy
    subst hy
    obtain ⟨B, d, e, _⟩ := hu.form
    rw [e]; rfl
  · unfold maxLen; omega
  · omega
  · simp; omega
  · intro v' w' h1 h2 _
    have h2' := grown_of_alloc h2
    have e1 : ∀ k, k < rows.length → (us ++ [u]).getD k (.slice none 0 0) = us.getD k (.slice none 0 0) := fun k hk => by simp [List.getD_eq_getElem?_getD, List.getElem?_append_left (show k < us.length by omega)]
    have e2 : (us ++ [u]).getD rows.length (.slice none 0 0) = u := by simp [List.getD_eq_getElem?_getD, ← hl]
    refine h v' w' ⟨us ++ [u], by simp [hl], by rw [List.length_append]; exact h1, fun k hk => ?_, fun i j hij hj => ?_⟩ h2'
    · rw [List.length_append, List.length_singleton] at hk
      by_cases hk2 : k < rows.length
      · have e3 : (rows ++ [xs]).getD k [] = rows.getD k [] := by simp [List.getD_eq_getElem?_getD, List.getElem?_append_left hk2]
        rw [e1 k hk2, e3]
        exact (hr k hk2).kept h2' (types_part (hr k hk2) hor (by decide))
      · obtain rfl : k = rows.length := by omega
        have e3 : (rows ++ [xs]).getD rows.length [] = xs := by simp [List.getD_eq_getElem?_getD]
        rw [e2, e3]
        exact hu.kept h2' (types_part hu hor (by decide))
    · rw [List.length_append, List.length_singleton] at hj
      rw [e1 i (by omega)]
      by_cases hj2 : j < rows.length
      · rw [e1 j hj2]; exact hd i j hij hj2
      · obtain rfl : j = rows.length := by omega
        rw [e2]
        rcases q : (us.getD i (.slice none 0 0)).ownBlock with _ | g
        · exact .inl rfl
        · right
          intro e
          have := hlt0 i hij g q
          have := (hu0.lt g e.symm).1
          omega
theorem below_appendV {B : Nat} {a w w' : World} {base : Nat} {v : Value} {rows : List (List Int)} (h : Below B a w) (hg : w.grownBy w' v.ownBlock) (hown : OwnRows w base v rows) (hB : B ≤ base) (hbase : base ≤ w.heap.size) : Below B a w' :=
  h.grown hg (Nat.le_trans hB hbase) (fun k hk => Nat.le_trans hB (hown.lt k hk).1)
end Go.Proofs.Ytcmpioalnpmpmaa

namespace Go.Proofs.Ytcmpioalnpmpmaa
open Go.RowKit Go.Sort
set_option maxRecDepth 100000
theorem wp_append1at2 {ops : Array Oper} {rest : List Oper} {o : Oper} {a : Act} {Q : Exit → Act → World → Prop} (w : World) (hgd : o.guard = none) (s x : Operand)
    (ho : o.op = .call { callee := .builtin .append, args := #[s, x], argTypes := #[23, 23] })
    (base : Nat) (v : Value) (xs : List Int) (y : Int) (hs : a.eval s = v) (hown : Own w base v xs) (hx : a.eval x = .slice (some ⟨w.heap.size, 0, none⟩) 1 1)
    (hlen : xs.length ≤ 1099511627776) (hbase : base ≤ w.heap.size)
    (h : ∀ v' w', Own w' base v' (xs ++ [y]) → w.grownBy w' v.ownBlock → (v'.ownBlock = v.ownBlock ∨ ∃ k, v'.ownBlock = some k ∧ w.heap.size ≤ k) → wpList Try.prog ops Q rest (a.put o.dst v') w') :
    wpList Try.prog ops Q (o :: rest) a (w.alloc (.cells #[.int .i64 y] 3)) := by
  obtain ⟨i0, hi, hz0, hz1, hz2⟩ := info_parts i64_info
  have hown' : (w.alloc (.cells #[.int .i64 y] 3)).ownsRow base 3 1 v xs.length (xs.map (Value.int .i64)) := World.ownsRow.alloc hown _
  refine wpList_append_own_at _ hgd s x 23 ho base 3 i0 (.int .i64 0) 1 8 Try.underlying23 hi hz0 hz1 hz2 rfl (by decide) v xs.length (xs.map (Value.int .i64)) hs hown' ⟨w.heap.size, 0, none⟩ 1 1 [.int .i64 y] hx rfl ?_ ?_ ?_ ?_ ?_ ?_
  · intro j u hj
    match j, hj with
    | 0, hj => simp at hj; subst hj; simp [Addr.add]
  · intro u hu; simp at hu; subst hu; rfl
  · unfold maxLen; omega
  · omega
  · simp; omega
  · intro v' w' h1 h2 _ h4
    refine h v' w' ?_ (grown_of_alloc h2) (h4.imp id fun e => ⟨_, e, by simp⟩)
    unfold Own
    rw [List.length_append, List.map_append]
    exact h1
def Own2U (w : World) (bo bi : Nat) (v : Value) (us : List Value) (rows : List (List Int)) : Prop :=
  us.length = rows.length ∧ w.ownsRow bo 23 1 v rows.length us ∧ (∀ k, k < rows.length → Own w bi (us.getD k (.slice none 0 0)) (rows.getD k [])) ∧
    ∀ i j, i < j → j < rows.length → (us.getD i (.slice none 0 0)).ownBlock = none ∨ (us.getD i (.slice none 0 0)).ownBlock ≠ (us.getD j (.slice none 0 0)).ownBlock
def Own2 (w : World) (bo bi : Nat) (v : Value) (rows : List (List Int)) : Prop := ∃ us : List Value, Own2U w bo bi v us rows
theorem Own2.nil_ (w : World) (bo bi : Nat) : Own2 w bo bi (.slice none 0 0) [] := ⟨[], rfl, World.ownsRow_nil _ _ _ _, fun k h => absurd h (by simp), fun i j _ h => absurd h (by simp)⟩
theorem Own2.lit0 (w : World) (bo bi : Nat) (hb : bo ≤ w.heap.size) : Own2 (w.alloc (.cells #[] 23)) bo bi (.slice (some ⟨w.heap.size, 0, none⟩) 0 0) [] := by
  have := World.ownsRow_lit (e := 23) (size := 1) w #[] 0 hb (by unfold maxLen; omega) (by simp)
  exact ⟨[], rfl, by simpa using this, fun k h => absurd h (by simp), fun i j _ h => absurd h (by simp)⟩
theorem Own2.below {w w' : World} {bo bi : Nat} {v : Value} {rows : List (List Int)} (h : Own2 w bo bi v rows) (hb : Below w.heap.size w w') : Own2 w' bo bi v rows := by
  obtain ⟨us, hl, ho, hr, hd⟩ := h
  exact ⟨us, hl, ownsRow_below ho hb, fun k hk => (hr k hk).below hb, hd⟩
theorem Own2.rows {w : World} {bo bi b : Nat} {v : Value} {rows : List (List Int)} (h : Own2 w bo bi v rows) (h1 : b ≤ bo) (h2 : b ≤ bi) : OwnRows w b v rows := by
  obtain ⟨us, hl, ho, hr, hd⟩ := h
  exact ⟨us, hl, ownsRow_mono ho h1, fun k hk => (hr k hk).mono h2, hd⟩
theorem Own2.form {w : World} {bo bi : Nat} {v : Value} {rows : List (List Int)} (h : Own2 w bo bi v rows) : ∃ A c, v = .slice A rows.length c ∧ c ≤ maxLen ∧ rows.length ≤ c ∧
    (0 < rows.length → ∃ g, A = some ⟨g, 0, none⟩ ∧ bo ≤ g ∧ g < w.heap.size) := by
  obtain ⟨us, hl, ho, hr, -⟩ := h
  have hlt := World.ownsRow.lt ho
  rcases ho.2 with ⟨rfl, e⟩ | ⟨g, cap, cur, rfl, hb, hg, hle, hm, _⟩
  · exact ⟨none, 0, by rw [e], by unfold maxLen; omega, by omega, fun h => absurd h (by omega)⟩
  · exact ⟨_, cap, rfl, hm, hle, fun _ => ⟨g, rfl, hlt g rfl⟩⟩
/-- the cell of one row -/
theorem Own2U.cell {w : World} {bo bi g n c : Nat} {us : List Value} {rows : List (List Int)} (h : Own2U w bo bi (.slice (some ⟨g, 0, none⟩) n c) us rows) (hn : rows.length = n) {k : Nat} (hk : k < rows.length) :
    w.cell? ⟨g, k, none⟩ = some (us.getD k (.slice none 0 0)) ∧ w.frozen? ⟨g, k, none⟩ = false := by
  subst hn
  obtain ⟨hl, ho, hr, hd⟩ := h
  have h1 := World.ownsRow.cells ho (g := g) rfl k (us.getD k (.slice none 0 0)) (by simp [show k < us.length by omega])
  rw [Addr.add_lit, Nat.zero_add] at h1
  exact ⟨h1, World.ownsRow.frozenAt ho k⟩
/-- an append to one row goes back into its place -/
theorem Own2U.put {w w1 : World} {bo bi g n c : Nat} {us : List Value} {rows : List (List Int)} (h : Own2U w bo bi (.slice (some ⟨g, 0, none⟩) n c) us rows) (hn : rows.length = n) {i : Nat} (hi : i < rows.length) {u' : Value} {ys : List Int}
    (ho' : Own w1 bi u' ys) (hg : w.grownBy w1 (us.getD i (.slice none 0 0)).ownBlock) (hat : u'.ownBlock = (us.getD i (.slice none 0 0)).ownBlock ∨ ∃ k, u'.ownBlock = some k ∧ w.heap.size ≤ k) :
    Own2U (w1.setCell ⟨g, i, none⟩ u') bo bi (.slice (some ⟨g, 0, none⟩) n c) (us.set i u') (rows.set i ys) ∧ w1.grownBy (w1.setCell ⟨g, i, none⟩ u') (some g) := by
  subst hn
  obtain ⟨hl, ho, hr, hd⟩ := h
  have ho1 : w1.ownsRow bo 23 1 (.slice (some ⟨g, 0, none⟩) rows.length c) rows.length us := World.ownsRow.kept ho hg (apart_symm' (types_part (hr i hi) ho (by decide)))
  have hst := World.ownsRow.stored ho1 i u'
  have hap : u'.ownBlock = none ∨ u'.ownBlock ≠ some g := by
    have := types_part ho' ho1 (by decide)
    simpa [Value.ownBlock] using this
  refine ⟨⟨by simp [hl], ?_, fun k hk => ?_, fun a b hab hb => ?_⟩, hst.2⟩
  · rw [List.length_set]
    exact hst.1
  · rw [List.length_set] at hk
    by_cases hik : i = k
    · subst hik
      rw [show (rows.set i ys).getD i [] = ys by simp [List.getD_eq_getElem?_getD, hk], show (us.set i u').getD i (.slice none 0 0) = u' by simp [List.getD_eq_getElem?_getD, show i < us.length by omega]]
      exact ho'.kept hst.2 hap
    · rw [show (rows.set i ys).getD k [] = rows.getD k [] by simp [List.getD_eq_getElem?_getD, List.getElem?_set_ne hik], show (us.set i u').getD k (.slice none 0 0) = us.getD k (.slice none 0 0) by simp [List.getD_eq_getElem?_getD, List.getElem?_set_ne hik]]
      have h1 : Own w1 bi (us.getD k (.slice none 0 0)) (rows.getD k []) := by
        refine (hr k hk).kept hg ?_
        rcases Nat.lt_or_gt_of_ne hik with q | q
        · exact apart_symm' (hd i k q hk)
        · exact hd k i q hi
      refine h1.kept hst.2 ?_
      have := types_part h1 ho1 (by decide)
      simpa [Value.ownBlock] using this
  · rw [List.length_set] at hb
    have key : ∀ k, k ≠ i → k < rows.length → (us.getD k (.slice none 0 0)).ownBlock = none ∨ (us.getD k (.slice none 0 0)).ownBlock ≠ u'.ownBlock := by
      intro k hki hk
      rcases hat with e | ⟨z, e, hz⟩
      · rw [e]
        rcases Nat.lt_or_gt_of_ne hki with q | q
        · exact hd k i q hi
        · exact apart_symm' (hd i k q hk)
      · rw [e]
        rcases q : (us.getD k (.slice none 0 0)).ownBlock with _ | x
        · exact .inl rfl
        · right
          intro e2
          have h3 := ((hr k hk).lt x q).2
          injection e2 with e2
          omega
    have ei : (us.set i u').getD i (.slice none 0 0) = u' := by simp [List.getD_eq_getElem?_getD, show i < us.length by omega]
    have en : ∀ k, k ≠ i → (us.set i u').getD k (.slice none 0 0) = us.getD k (.slice none 0 0) := fun k hk => by simp [List.getD_eq_getElem?_getD, List.getElem?_set_ne (Ne.symm hk)]
    by_cases h1 : a = i
    · subst h1
      rw [ei, en b (by omega)]
      exact apart_symm' (key b (by omega) hb)
    · by_cases h2 : b = i
      · subst h2
        rw [ei, en a h1]
        exact key a h1 (by omega)
      · rw [en a h1, en b h2]
        exact hd a b hab hb
theorem wp_append2V {ops : Array Oper} {rest : List Oper} {o : Oper} {a : Act} {Q : Exit → Act → World → Prop} (w : World) (hgd : o.guard = none) (s x : Operand)
    (ho : o.op = .call { callee := .builtin .append, args := #[s, x], argTypes := #[34, 34] })
    (bo bi : Nat) (v : Value) (rows : List (List Int)) (u : Value) (xs : List Int) (w0 : World) (hs : a.eval s = v) (hown0 : Own2 w0 bo bi v rows) (hb0 : Below w0.heap.size w0 w) (hu0 : Own w w0.heap.size u xs) (hbo0 : bo ≤ w0.heap.size) (hbi0 : bi ≤ w0.heap.size) (hx : a.eval x = .slice (some ⟨w.heap.size, 0, none⟩) 1 1)
    (hlen : rows.length ≤ 1048576)
    (h : ∀ v' w', Own2 w' bo bi v' (rows ++ [xs]) → w.grownBy w' v.ownBlock → wpList Try.prog ops Q rest (a.put o.dst v') w') :
    wpList Try.prog ops Q (o :: rest) a (w.alloc (.cells #[u] 23)) := by
  obtain ⟨i0, hi, hz0, hz1, hz2⟩ := info_parts rows_info
  have hu := hu0.mono hbi0
  have hbase : bo ≤ w.heap.size := Nat.le_trans hbo0 hb0.size
  obtain ⟨us0, hown0⟩ := hown0
  have hlt0 : ∀ k, k < rows.length → ∀ g, (us0.getD k (.slice none 0 0)).ownBlock = some g → g < w0.heap.size := fun k hk g hg => ((hown0.2.2.1 k hk).lt g hg).2
  obtain ⟨hl, hor, hr, hd⟩ : Own2U w bo bi v us0 rows := ⟨hown0.1, ownsRow_below hown0.2.1 hb0, fun k hk => (hown0.2.2.1 k hk).below hb0, hown0.2.2.2⟩
  have hor' : (w.alloc (.cells #[u] 23)).ownsRow bo 23 1 v rows.length us0 := World.ownsRow.alloc hor _
  refine wpList_append_own _ hgd s x 34 ho bo 23 i0 (.slice none 0 0) 1 24 Try.underlying34 hi hz0 hz1 hz2 rfl (by decide) v rows.length us0 hs hor' ⟨w.heap.size, 0, none⟩ 1 1 [u] hx rfl ?_ ?_ ?_ ?_ ?_ ?_
  · intro j y hj
    match j, hj with
    | 0, hj => simp at hj; subst hj; simp [Addr.add]
  · intro y hy
    simp at hy
    subst hy
    obtain ⟨B, d, e, _⟩ := hu.form
    rw [e]; rfl
  · unfold maxLen; omega
  · omega
  · simp; omega
  · intro v' w' h1 h2 _
    have h2' := grown_of_alloc h2
    have e1 : ∀ k, k < rows.length → (us0 ++ [u]).getD k (.slice none 0 0) = us0.getD k (.slice none 0 0) := fun k hk => by simp [List.getD_eq_getElem?_getD, List.getElem?_append_left (show k < us0.length by omega)]
    have e2 : (us0 ++ [u]).getD rows.length (.slice none 0 0) = u := by simp [List.getD_eq_getElem?_getD, ← hl]
    refine h v' w' ⟨us0 ++ [u], by simp [hl], by rw [List.length_append]; exact h1, fun k hk => ?_, fun i j hij hj => ?_⟩ h2'
    · rw [List.length_append, List.length_singleton] at hk
      by_cases hk2 : k < rows.length
      · have e3 : (rows ++ [xs]).getD k [] = rows.getD k [] := by simp [List.getD_eq_getElem?_getD, List.getElem?_append_left hk2]
        rw [e1 k hk2, e3]
        exact (hr k hk2).kept h2' (types_part (hr k hk2) hor (by decide))
      · obtain rfl : k = rows.length := by omega
        have e3 : (rows ++ [xs]).getD rows.length [] = xs := by simp [List.getD_eq_getElem?_getD]
        rw [e2, e3]
        exact hu.kept h2' (types_part hu hor (by decide))
    · rw [List.length_append, List.length_singleton] at hj
      rw [e1 i (by omega)]
      by_cases hj2 : j < rows.length
      · rw [e1 j hj2]; exact hd i j hij hj2
      · obtain rfl : j = rows.length := by omega
        rw [e2]
        rcases q : (us0.getD i (.slice none 0 0)).ownBlock with _ | g
        · exact .inl rfl
        · right
          intro e
          have := hlt0 i hij g q
          have := (hu0.lt g e.symm).1
          omega
end Go.Proofs.Ytcmpioalnpmpmaa

