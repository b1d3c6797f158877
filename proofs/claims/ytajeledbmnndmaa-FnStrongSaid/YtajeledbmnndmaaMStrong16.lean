/- Texts put together: LFnStrong. -/
import Derived.Test.YtajeledbmnndmaaMStrong12
import Derived.Test.YtajeledbmnndmaaMStrong15
import Derived.Test.YtajeledbmnndmaaMStrong13
import Derived.Test.YtajeledbmnndmaaMStrong14
import Derived.Deep.RegionHeld3
import Derived.Deep.DeepCutAuto
namespace Go.Proofs.Ytajeledbmnndmaa
open Go.RowKit Go.Sort
set_option maxRecDepth 100000
/-- what stays while the law runs -/
structure TSt (w W : World) (bx n : Nat) (Y : Option Addr) (cy : Nat) (xs : List Int) : Prop where
  below : Below w.heap.size w W
  box : TBox W bx n (.slice Y n cy)
  tour : Rd W (.slice Y n cy) xs
theorem TSt.next {w W W' : World} {bx n : Nat} {Y : Option Addr} {cy : Nat} {xs : List Int} (h : TSt w W bx n Y cy xs) (hb : Below W.heap.size W W') : TSt w W' bx n Y cy xs :=
  ⟨Below.then h.below hb, h.box.below hb, h.tour.below hb⟩
theorem rd_set01 {w : World} {base g : Nat} {A : Option Addr} {n c : Nat} {L : List Int} (h : Own w base (.slice A n c) L) (x : Int) (sl : Value) (hg : g < base) : Rd ((w.setCell ⟨g, 0, none⟩ (.int .i64 x)).setCell ⟨g, 1, none⟩ sl) (.slice A n c) L := by
  have ne : ∀ {W : World}, Own W base (.slice A n c) L → (Value.slice A n c).ownBlock = none ∨ (Value.slice A n c).ownBlock ≠ some g := fun {W} hW => by
    rcases q : (Value.slice A n c).ownBlock with _ | k
    · exact .inl rfl
    · right
      have := (hW.lt k q).1
      intro e; injection e; omega
  have h1 := h.kept (setCell_grown w ⟨g, 0, none⟩ (.int .i64 x)) (ne h)
  exact (h1.kept (setCell_grown _ ⟨g, 1, none⟩ sl) (ne h1)).rd
theorem pow_walk {n P : Nat} (hP : P = 2 ^ n) (h : P ≤ 64) : wrap64 ((2 : Int) ^ n) = (P : Int) ∧ IntKind.i64.wrap ((2 : Int) ^ n) = (P : Int) ∧ IntKind.i64.wrap ((P : Int) - 1) = ((P - 1 : Nat) : Int) ∧ wrap64 ((P : Int) - 1) = ((P - 1 : Nat) : Int) := by
  have hs0 : ((2 : Int) ^ n) = (P : Int) := by rw [hP, Int.natCast_pow]; rfl
  have hP1 : 1 ≤ P := by rw [hP]; exact Nat.one_le_two_pow
  rw [hs0]
  clear hs0 hP
  exact ⟨by unfold wrap64; omega, IntWalk.i64_in _ (by omega), by rw [IntWalk.i64_in _ (by omega)]; omega, by unfold wrap64; omega⟩
set_option maxHeartbeats 8000000 in
theorem lawFnStrong (v0 : Value) (w : World) (h0 : BytesV w w.heap.size v0) :
    Calls Try.prog 6 #[v0] w fun e w' => e = .returned (.bool true) ∧ Below w.heap.size w w' := by
  have HV := Lib.hid h0
  obtain ⟨A0, k0, c0, rfl, hk0, hc0, -⟩ := h0
  unfold maxLen at hc0
  by_cases hn0 : k0 ≤ 1048576
  case neg =>
    have hd0 : decide ((1048576 : Int) < (k0 : Int)) = true := by simp; omega
    go_enter Try.func6, Try.ntmps6
    go_wp2
    go_ret
    exact ⟨rfl, Below.refl _ _⟩
  have hd0 : decide ((1048576 : Int) < (k0 : Int)) = false := by simp; omega
  go_enter Try.func6, Try.ntmps6
  go_wp2_with fail
  refine (makeTour_any w (.slice A0 k0 c0) 0 6 0 6 rfl rfl (by omega) (by omega) (by omega) HV.out).mono ?_
  rintro e w1 ⟨n, sl, xs, rfl, hn6, hp, ho, hb⟩
  obtain ⟨Y, cy, rfl, -, hcy, -⟩ := ho.form
  have HP := Lib.hid hp
  have hn1 : 1 ≤ n := by have := hp.1; omega
  rw [tour_len hp] at *
  have bb := below_alloc1 w1 (.cells #[.int .i64 n, .slice Y n cy] 28)
  obtain ⟨bx, hbx⟩ : ∃ bx, bx = w1.heap.size := ⟨_, rfl⟩
  have HS : Hid (TSt w (w1.alloc (.cells #[.int .i64 n, .slice Y n cy] 28)) bx n Y cy xs) := Lib.hid ⟨Below.then hb bb, by rw [hbx]; exact TBox.new w1 n (.slice Y n cy) 28, ho.rd.below bb⟩
  clear ho hb hp bb HV
  go_wp2_with fail
  rw [← hbx]
  generalize w1.alloc (.cells #[.int .i64 n, .slice Y n cy] 28) = w2 at *
  clear hbx
  have y0 := HS.out.box.1
  have y1 := HS.out.box.2
  go_wp2_with fail
  refine (cParts HP.out HS.out.tour).mono ?_
  rintro e w3 ⟨PA, pc, rfl, hpc, ho3, hb3⟩
  have HS3 := Lib.hid (HS.out.next hb3)
  have hpl := parts_pos HP.out
  have hpl2 := partsN_len HP.out
  obtain ⟨m, hm⟩ : ∃ m, m = (partsN xs (2 ^ n - 1)).length := ⟨_, rfl⟩
  have HM := Lib.hid hm
  rw [← hm] at ho3 hpl hpl2 ⊢
  obtain ⟨pg, po, rfl⟩ := rd_at ho3.rd (by rw [nI_len, ← hm]) hpl
  have HR3 := Lib.hid ho3.rd
  unfold maxLen at hpc
  clear hb3 HS y0 y1 ho3 hm
  obtain ⟨P, hP⟩ : ∃ P, P = 2 ^ n := ⟨_, rfl⟩
  have HPP := Lib.hid hP
  have hP1 : 1 ≤ P := by rw [hP]; exact Nat.one_le_two_pow
  have hP64 : P ≤ 64 := by rw [hP]; exact Nat.pow_le_pow_right (n := 2) (j := 6) (by decide) hn6
  clear hP
  go_wp2
  go_loopw [6, 35] (fun t6 t35 wr => ∃ (i all : Nat), i ≤ m ∧ t35 = .int .i64 i ∧ t6 = .int .i64 all ∧ Hid (PtI n xs i all) ∧ Hid (TSt w wr bx n Y cy xs) ∧ Hid (Rd wr (.slice (some ⟨pg, po, none⟩) m pc) (nI (partsN xs (2 ^ n - 1))))) (fun _ t35 _ => m - (intOf t35).toNat)
  case atStart => exact ⟨0, 0, by omega, rfl, rfl, Lib.hid (pt_start HP.out), HS3, HR3⟩
  case round =>
    obtain ⟨wo, rfl⟩ : ∃ x, x = wr := ⟨_, rfl⟩
    obtain ⟨i, all, hi, rfl, rfl, HI, HS, HR⟩ := hrel
    clear HS3 HR3
    by_cases hlt : i < m
    · as_aux_lemma =>
      -- heavy
      obtain ⟨T, hTe, hT1, hT2, hT3, hT4, hT5⟩ := pt_step HP.out (by rw [← HM.out]; exact hlt) HI.out
      have zT := rd_cell HR.out (by rw [nI_len, ← HM.out]) hlt
      rw [nI_getD (by rw [← HM.out]; exact hlt), hTe] at zT
      have hall : all < P := by rw [HPP.out]; exact pt_all HP.out HI.out
      rw [← HPP.out] at hT2
      have hor := i64_or_nat all T (by omega) (by omega)
      have hall2 : all ||| T < P := by rw [HPP.out]; exact pt_all HP.out hT4
      have hand : bits .and .i64 (all : Int) (T : Int) = 0 := by rw [i64_and_nat all T (by omega) (by omega), hT3]; rfl
      have HI2 := Lib.hid hT4
      have HT5 := Lib.hid hT5
      obtain ⟨hs1, hs2, hs3, hs4⟩ := pow_walk HPP.out hP64
      have hmin : min n 64 = n := Nat.min_eq_left (by omega)
      have t1 : decide (P ≤ T) = false := by simp; omega
      have t2 : decide ((P : Int) ≤ (T : Int)) = false := by simp; omega
      have t3 : decide ((T : Int) ≤ 0) = false := by simp; omega
      clear hTe hT3 hT4 hT5 HI hs3 hs4
      generalize all ||| T = al at *
      go_wp2
      clear hs1 hs2 hmin t1 t2 t3 hand hor zT
      go_loopw [9] (fun t9 wr => ∃ (a : Nat), a ≤ n ∧ t9 = .int .i64 a ∧ Hid (TSt w wr bx n Y cy xs) ∧ Hid (Rd wr (.slice (some ⟨pg, po, none⟩) m pc) (nI (partsN xs (2 ^ n - 1))))) (fun t9 _ => n - (intOf t9).toNat)
      case atStart => exact ⟨0, by omega, rfl, HS, HR⟩
      case round =>
        obtain ⟨wi, rfl⟩ : ∃ x, x = wr := ⟨_, rfl⟩
        obtain ⟨a, ha, rfl, HSi, HRi⟩ := hrel
        clear HS HR
        by_cases hlta : a < n
        · as_aux_lemma =>
          have hbit := bit_num T a
          rcases qb : T.testBit a with _ | _
          · as_aux_lemma =>
            rw [qb] at hbit
            have hb2 : bits .and .i64 ((T : Int) / 2 ^ a) 1 = 0 := hbit
            clear hbit
            go_wp2
            go_roundw
            case rel => exact ⟨a + 1, by omega, by go_num, HSi, HRi⟩
            case measure => simp [intOf]; omega
          · as_aux_lemma =>
            rw [qb] at hbit
            have hb2 : bits .and .i64 ((T : Int) / 2 ^ a) 1 = 1 := hbit
            clear hbit
            obtain ⟨h1, h2, h3⟩ := HT5.out a hlta qb
            have H1 := Lib.hid h1
            have H3 := Lib.hid h3
            have hR : reachN xs a < 256 := Nat.lt_of_lt_of_le (reach_facts HP.out (a := a) (by rw [tour_len HP.out]; exact hlta)).2.2.2 (by rw [tour_len HP.out]; exact pow_le (by omega))
            have hand : bits .and .i64 (reachN xs a : Int) (al : Int) = (T : Int) := by rw [i64_and_nat _ al (by omega) (by omega), h2]
            clear h1 h2 h3
            have y0 := HSi.out.box.1
            have y1 := HSi.out.box.2
            go_wp2_with fail
            refine (cReach HP.out HSi.out.tour a hlta).mono ?_
            rintro e w5 ⟨rfl, hb5⟩
            have HS5 := Lib.hid (HSi.out.next hb5)
            have HR5 := Lib.hid (HRi.out.below hb5)
            clear hb5 HSi HRi y0 y1
            generalize reachN xs a = R at *
            have y0 := HS5.out.box.1
            have y1 := HS5.out.box.2
            go_wp2_with fail
            refine (cPartOf HS5.out.tour a i H1.out).mono ?_
            rintro e w6 ⟨rfl, hb6⟩
            have HS6 := Lib.hid (HS5.out.next hb6)
            have HR6 := Lib.hid (HR5.out.below hb6)
            clear hb6 HS5 HR5 y0 y1
            go_wp2
            clear hand hb2
            go_loopw [11] (fun t11 wr => ∃ (b : Nat), b ≤ n ∧ t11 = .int .i64 b ∧ Hid (TSt w wr bx n Y cy xs) ∧ Hid (Rd wr (.slice (some ⟨pg, po, none⟩) m pc) (nI (partsN xs (2 ^ n - 1))))) (fun t11 _ => n - (intOf t11).toNat)
            case atStart => exact ⟨0, by omega, rfl, HS6, HR6⟩
            case round =>
              obtain ⟨wj, rfl⟩ : ∃ x, x = wr := ⟨_, rfl⟩
              obtain ⟨b, hb, rfl, HSj, HRj⟩ := hrel
              clear HS6 HR6
              by_cases hltb : b < n
              · as_aux_lemma =>
                have hbit := bit_num al b
                rcases qal : al.testBit b with _ | _
                · as_aux_lemma =>
                  rw [qal] at hbit
                  have hb2 : bits .and .i64 ((al : Int) / 2 ^ b) 1 = 0 := hbit
                  clear hbit
                  have HBT := Lib.hid (H3.out b hltb qal)
                  have y0 := HSj.out.box.1
                  have y1 := HSj.out.box.2
                  go_wp2_with fail
                  refine (cBeat HP.out HSj.out.tour a b hlta hltb).mono ?_
                  rintro e w8 ⟨rfl, hb8⟩
                  rw [HBT.out]
                  have HS8 := Lib.hid (HSj.out.next hb8)
                  have HR8 := Lib.hid (HRj.out.below hb8)
                  clear hb8 HSj HRj y0 y1
                  go_wp2
                  go_roundw
                  case rel => exact ⟨b + 1, by omega, by go_num, HS8, HR8⟩
                  case measure => simp [intOf]; omega
                · as_aux_lemma =>
                  rw [qal] at hbit
                  have hb2 : bits .and .i64 ((al : Int) / 2 ^ b) 1 = 1 := hbit
                  clear hbit
                  go_wp2
                  go_roundw
                  case rel => exact ⟨b + 1, by omega, by go_num, HSj, HRj⟩
                  case measure => simp [intOf]; omega
              · as_aux_lemma =>
                obtain rfl : b = n := by omega
                go_wp2
                go_roundw
                case rel => exact ⟨a + 1, by omega, by go_num, HSj, HRj⟩
                case measure => simp [intOf]; omega
        · as_aux_lemma =>
          obtain rfl : a = n := by omega
          go_wp2
          go_roundw
          case rel => exact ⟨i + 1, al, by omega, by go_num, rfl, HI2, HSi, HRi⟩
          case measure => simp [intOf]; omega
      -- light
    · as_aux_lemma =>
      obtain rfl : i = m := by omega
      have hall : all = P - 1 := by rw [HPP.out]; exact pt_end HP.out (by rw [← HM.out]; exact HI.out)
      subst hall
      obtain ⟨hs1, hs2, hs3, hs4⟩ := pow_walk HPP.out hP64
      have hmin : min n 64 = n := Nat.min_eq_left (by omega)
      have HSB : Hid (strB xs n = decide (i = 1)) := Lib.hid (by unfold strB; rw [← HM.out])
      clear HI HR
      generalize P - 1 = P1 at *
      have y0 := HS.out.box.1
      have y1 := HS.out.box.2
      go_wp2_with fail
      refine (cIsStrong HP.out HS.out.tour).mono ?_
      rintro e w4 ⟨rfl, hb4⟩
      have HS4 := Lib.hid (HS.out.next hb4)
      clear hb4 HS y0 y1 hs1 hs2 hs3 hs4 hmin
      have HSI := Lib.hid (strB_iff HP.out)
      obtain ⟨sb, hsb⟩ : ∃ sb, sb = strB xs n := ⟨_, rfl⟩
      rw [← hsb] at HSB HSI ⊢
      clear hsb
      go_wp2
      go_loopw [13] (fun t13 wr => ∃ (a : Nat), a ≤ n ∧ t13 = .int .i64 a ∧ Hid (TSt w wr bx n Y cy xs)) (fun t13 _ => n - (intOf t13).toNat)
      case atStart => exact ⟨0, by omega, rfl, HS4⟩
      case round =>
        obtain ⟨wi, rfl⟩ : ∃ x, x = wr := ⟨_, rfl⟩
        obtain ⟨a, ha, rfl, HSi⟩ := hrel
        clear HS4
        by_cases hlta : a < n
        · as_aux_lemma =>
          -- heavy
          go_wp2
          go_loopw [14] (fun t14 wr => ∃ (k : Nat), 3 ≤ k ∧ k ≤ 7 ∧ t14 = .int .i64 k ∧ Hid (TSt w wr bx n Y cy xs)) (fun t14 _ => 8 - (intOf t14).toNat)
          case atStart => exact ⟨3, by omega, by omega, rfl, HSi⟩
          case round =>
            obtain ⟨wj, rfl⟩ : ∃ x, x = wr := ⟨_, rfl⟩
            obtain ⟨k, hk3, hk7, rfl, HSj⟩ := hrel
            clear HSi
            by_cases hltk : k ≤ n
            · as_aux_lemma =>
              obtain ⟨L1, L2⟩ := cyc_law HP.out hn6 hlta hk3 hltk
              have y0 := HSj.out.box.1
              have y1 := HSj.out.box.2
              rcases qo : (cycO n xs a k).isSome with _ | _
              · as_aux_lemma =>
                have hsf : sb = false := by
                  rcases q : sb with _ | _
                  · rfl
                  · have := L1 (HSI.out.1 q); rw [qo] at this; cases this
                subst hsf
                clear L1 L2
                go_wp2_with fail
                refine (cCycle HSj.out.tour a k qo (L := cycL n xs a k) rfl rfl).mono ?_
                rintro e w5 ⟨CA, cc, rfl, ho5, hb5⟩
                have HS5 := Lib.hid (HSj.out.next hb5)
                clear ho5 hb5 HSj y0 y1
                generalize (cycL n xs a k).length = lc at *
                go_wp2
                go_roundw
                case rel => exact ⟨k + 1, by omega, by omega, by go_num, HS5⟩
                case measure => simp [intOf]; omega
              · as_aux_lemma =>
                obtain ⟨c1, c2, c3⟩ := L2 qo
                clear L1 L2
                go_wp2_with fail
                refine (cCycle HSj.out.tour a k qo (L := cycL n xs a k) rfl c2).mono ?_
                rintro e w5 ⟨CA, cc, rfl, ho5, hb5⟩
                obtain ⟨cg, co, rfl⟩ := rd_at ho5.rd c2 (by omega)
                have HS5 := Lib.hid (HSj.out.next hb5)
                have HC5 := Lib.hid ho5.rd
                have HC1 := Lib.hid c1
                have HC2 := Lib.hid c2
                have HC3 := Lib.hid c3
                clear ho5 hb5 HSj y0 y1 c1 c2 c3
                cases sb
                all_goals
                  have y0 := HS5.out.box.1
                  have y1 := HS5.out.box.2
                  go_wp2_with fail
                  refine (cIsCycle HS5.out.tour HC5.out HC1.out).mono ?_
                  rintro e w6 ⟨rfl, hb6⟩
                  have HS6 := Lib.hid (HS5.out.next hb6)
                  have z0 := rd_cell (HC5.out.below hb6) HC2.out (i := 0) (by omega)
                  rw [HC3.out, Nat.add_zero] at z0
                  clear hb6 HS5 HC5 y0 y1
                  go_wp2
                  go_roundw
                  case rel => exact ⟨k + 1, by omega, by omega, by go_num, HS6⟩
                  case measure => simp [intOf]; omega
            · as_aux_lemma =>
              go_wp2
              go_loopw [17] (fun t17 wr => ∃ (b : Nat), b ≤ n ∧ t17 = .int .i64 b ∧ Hid (TSt w wr bx n Y cy xs)) (fun t17 _ => n - (intOf t17).toNat)
              case atStart => exact ⟨0, by omega, rfl, HSj⟩
              case round =>
                obtain ⟨wk, rfl⟩ : ∃ x, x = wr := ⟨_, rfl⟩
                obtain ⟨b, hb, rfl, HSk⟩ := hrel
                clear HSj
                by_cases hltb : b < n
                · as_aux_lemma =>
                  obtain ⟨L1, L2⟩ := wb_law HP.out hlta hltb
                  have hbit := bit_num (reachN xs a) b
                  have y0 := HSk.out.box.1
                  have y1 := HSk.out.box.2
                  rcases qo : (wbO n xs a b).isSome with _ | _
                  · as_aux_lemma =>
                    rw [← L1, qo] at hbit
                    have hb2 : bits .and .i64 ((reachN xs a : Int) / 2 ^ b) 1 = 0 := hbit
                    clear L1 L2 hbit
                    go_wp2_with fail
                    refine (cWayB HSk.out.tour a b qo (L := wbL n xs a b) rfl rfl).mono ?_
                    rintro e w5 ⟨CA, cc, rfl, ho5, hb5⟩
                    have HS5 := Lib.hid (HSk.out.next hb5)
                    clear ho5 hb5 HSk y0 y1
                    generalize (wbL n xs a b).length = lc at *
                    have y0 := HS5.out.box.1
                    have y1 := HS5.out.box.2
                    go_wp2_with fail
                    refine (cReach HP.out HS5.out.tour a hlta).mono ?_
                    rintro e w6 ⟨rfl, hb6⟩
                    have HS6 := Lib.hid (HS5.out.next hb6)
                    clear hb6 HS5 y0 y1
                    generalize reachN xs a = R at *
                    go_wp2
                    go_roundw
                    case rel => exact ⟨b + 1, by omega, by go_num, HS6⟩
                    case measure => simp [intOf]; omega
                  · as_aux_lemma =>
                    rw [← L1, qo] at hbit
                    have hb2 : bits .and .i64 ((reachN xs a : Int) / 2 ^ b) 1 = 1 := hbit
                    obtain ⟨c1, c2, c3, c4, c5⟩ := L2 qo
                    clear L1 L2 hbit
                    obtain ⟨lc, hlc⟩ : ∃ lc, (wbL n xs a b).length = lc + 1 := ⟨(wbL n xs a b).length - 1, by omega⟩
                    rw [hlc] at c3 c5
                    rw [Nat.add_sub_cancel] at c5
                    go_wp2_with fail
                    refine (cWayB HSk.out.tour a b qo (L := wbL n xs a b) rfl hlc).mono ?_
                    rintro e w5 ⟨CA, cc, rfl, ho5, hb5⟩
                    obtain ⟨cg, co, rfl⟩ := rd_at ho5.rd hlc (by omega)
                    have HS5 := Lib.hid (HSk.out.next hb5)
                    have HC5 := Lib.hid ho5.rd
                    have HC1 := Lib.hid c1
                    have HC2 := Lib.hid hlc
                    have HC4 := Lib.hid c4
                    have HC5e := Lib.hid c5
                    clear ho5 hb5 HSk y0 y1 c1 c2 c4 c5 hlc
                    have y0 := HS5.out.box.1
                    have y1 := HS5.out.box.2
                    go_wp2_with fail
                    refine (cReach HP.out HS5.out.tour a hlta).mono ?_
                    rintro e w6 ⟨rfl, hb6⟩
                    have HS6 := Lib.hid (HS5.out.next hb6)
                    have HC6 := Lib.hid (HC5.out.below hb6)
                    clear hb6 HS5 HC5 y0 y1
                    generalize reachN xs a = R at *
                    have y0 := HS6.out.box.1
                    have y1 := HS6.out.box.2
                    go_wp2_with fail
                    refine (cIsWay HS6.out.tour HC6.out HC1.out).mono ?_
                    rintro e w7 ⟨rfl, hb7⟩
                    have HS7 := Lib.hid (HS6.out.next hb7)
                    have z0 := rd_cell (HC6.out.below hb7) HC2.out (i := 0) (by omega)
                    have z1 := rd_cell (HC6.out.below hb7) HC2.out (i := lc) (by omega)
                    rw [HC4.out, Nat.add_zero] at z0
                    rw [HC5e.out] at z1
                    clear hb7 HS6 HC6 y0 y1
                    have e0 : (((lc + 1 : Nat) : Int) == 0) = false := by simp; omega
                    have e1 : IntKind.i64.wrap (((lc + 1 : Nat) : Int) - 1) = (lc : Int) := by rw [IntWalk.i64_in _ (by omega)]; omega
                    have e2 : IntKind.i64.wrap ((lc : Int) + 1 - 1) = (lc : Int) := by rw [IntWalk.i64_in _ (by omega)]; omega
                    go_wp2
                    go_roundw
                    case rel => exact ⟨b + 1, by omega, by go_num, HS7⟩
                    case measure => simp [intOf]; omega
                · as_aux_lemma =>
                  obtain rfl : b = n := by omega
                  go_wp2
                  go_roundw
                  case rel => exact ⟨a + 1, by omega, by go_num, HSk⟩
                  case measure => simp [intOf]; omega
          -- light
        · as_aux_lemma =>
          obtain rfl : a = n := by omega
          have y0 := HSi.out.box.1
          have y1 := HSi.out.box.2
          go_wp2_with fail
          refine (cWeakest HP.out HSi.out.tour).mono ?_
          rintro e w5 ⟨wv, rows, rfl, ho5, hrl, hrw, hb5⟩
          obtain ⟨RA, rc5, rfl, hrc, -, -⟩ := ho5.form
          have HS5 := Lib.hid (HSi.out.next hb5)
          have HR5 := Lib.hid ho5.rdr
          have HRW := Lib.hid hrw
          obtain ⟨m2, hm2⟩ : ∃ m2, m2 = rows.length := ⟨_, rfl⟩
          have HM2 := Lib.hid hm2
          rw [← hm2] at HR5 hrl ⊢
          clear ho5 hb5 HSi y0 y1 hrw hm2
          unfold maxLen at hrc
          go_wp2
          go_loopw [206] (fun t206 wr => ∃ (j : Nat), j ≤ m2 ∧ t206 = .int .i64 j ∧ Hid (TSt w wr bx a Y cy xs) ∧ Hid (RdRows wr (.slice RA m2 rc5) rows)) (fun t206 _ => m2 - (intOf t206).toNat)
          case atStart => exact ⟨0, by omega, rfl, HS5, HR5⟩
          case round =>
            obtain ⟨wj, rfl⟩ : ∃ x, x = wr := ⟨_, rfl⟩
            obtain ⟨j, hj, rfl, HSj, HRj⟩ := hrel
            clear HS5 HR5
            by_cases hltj : j < m2
            · as_aux_lemma =>
              obtain ⟨rg, u, rfl, zu, hru⟩ := rd_rows HRj.out hltj
              obtain ⟨p, q, hpq, hpa, hqa, hbt, hstr⟩ := HRW.out (rows.getD j []) (by rw [List.getD_eq_getElem?_getD, List.getElem?_eq_getElem (by rw [← HM2.out]; exact hltj)]; exact List.getElem_mem _)
              rw [hpq] at hru
              have HRU := Lib.hid hru
              obtain ⟨UA, uc, rfl, huc, hum, -⟩ := hru
              have HRU : Hid (Rd wj (.slice UA 2 uc) [(p : Int), (q : Int)]) := HRU
              obtain ⟨ug, uo, rfl⟩ := rd_at HRU.out rfl (by decide)
              have z0 := rd_cell HRU.out rfl (i := 0) (by decide)
              have z1 := rd_cell HRU.out rfl (i := 1) (by decide)
              rw [show ([(p : Int), (q : Int)]).getD 0 0 = (p : Int) from rfl, Nat.add_zero] at z0
              rw [show ([(p : Int), (q : Int)]).getD 1 0 = (q : Int) from rfl] at z1
              have HNE := Lib.hid (bt_asym HP.out hpa hqa hbt).2
              have HBT := Lib.hid hbt
              have HST := Lib.hid hstr
              clear hbt hstr hpq
              simp only [List.length_cons, List.length_nil, Nat.zero_add] at huc zu
              have y0 := HSj.out.box.1
              have y1 := HSj.out.box.2
              go_wp2_with fail
              have HD : Hid (Below wj.heap.size wj wj.drew) := Lib.hid (Below.refl wj.heap.size wj).drew
              have HDA : Hid (Below wj.heap.size wj (wj.drew.alloc (.cells #[.int .i64 0, .slice none 0 0] 28))) := Lib.hid (Below.then HD.out (below_alloc1 wj.drew _))
              have HBF : Hid (BoxF (wj.drew.alloc (.cells #[.int .i64 0, .slice none 0 0] 28)) wj.heap.size 0 (.slice none 0 0)) := Lib.hid (BoxF.new wj.drew 0 (.slice none 0 0) 28)
              have ba := below_alloc1 wj (.cells #[.int .i64 0, .slice none 0 0] 28)
              have ya0 := (HSj.out.box.below ba).1
              have ya1 := (HSj.out.box.below ba).2
              have za0 := (ba.cell (World.block_lt_of_cell? _ _ z0)).trans z0
              have za1 := (ba.cell (World.block_lt_of_cell? _ _ z1)).trans z1
              clear ba
              have TC : Hid (∀ W, Below wj.heap.size wj W → Calls Try.prog 43 #[.agg #[.int .i64 a, .slice Y a cy], .int .i64 p, .int .i64 q] W fun e w' => ∃ A2 d2, e = .returned (.tuple #[.agg #[.int .i64 a, .slice A2 a d2], .bool true]) ∧ Own w' W.heap.size (.slice A2 a d2) (flipL xs p q) ∧ Below W.heap.size W w') := Lib.hid fun W hW => cFlipG HP.out (HSj.out.next hW).tour p q hpa hqa HNE.out
              have hEA : ∀ (args : Array Value) (W : World), (callFunc 43 args).run Try.prog W = .ok (.enter 43 args) W := fun args W => by kernel_rfl
              go_cut [22, 23] (fun t22 t23 wx => ∃ (bz : Nat) (A2 : Option Addr) (d2 : Nat), t22 = .pointer (some ⟨bz, 0, none⟩) ∧ t23 = .bool true ∧ Hid (TBox wx bz a (.slice A2 a d2)) ∧ Hid (Rd wx (.slice A2 a d2) (flipL xs p q)) ∧ Hid (Below wj.heap.size wj wx))
              case first =>
                as_aux_lemma =>
                  -- heavy
                  have KP : Hid (∀ W, Below wj.heap.size wj W → (W.cell? ⟨bx, 0, none⟩ = some (.int .i64 a) ∧ W.cell? ⟨bx, 1, none⟩ = some (.slice Y a cy) ∧ W.cell? ⟨ug, uo, none⟩ = some (.int .i64 p) ∧ W.cell? ⟨ug, uo + 1, none⟩ = some (.int .i64 q))) := Lib.hid fun W hW => ⟨(HSj.out.box.below hW).1, (HSj.out.box.below hW).2, (hW.cell (World.block_lt_of_cell? _ _ z0)).trans z0, (hW.cell (World.block_lt_of_cell? _ _ z1)).trans z1⟩
                  clear ya0 ya1 za0 za1 y0 y1 z0 z1 zu
                  have BB0 := HD.out
                  have BB0B := HDA.out
                  go_region_held3 (fun W => W.cell? ⟨bx, 0, none⟩ = some (.int .i64 a) ∧ W.cell? ⟨bx, 1, none⟩ = some (.slice Y a cy) ∧ W.cell? ⟨ug, uo, none⟩ = some (.int .i64 p) ∧ W.cell? ⟨ug, uo + 1, none⟩ = some (.int .i64 q))
                    (first | exact KP.out _ BB0 | exact KP.out _ BB0B | exact KP.out _ BB1 | exact KP.out _ (BB1.alloc BB1.size _) | exact KP.out _ (BB1.setCell (p := ⟨wj.heap.size, 0, none⟩) (Nat.le_refl _) _) | exact KP.out _ ((BB1.setCell (p := ⟨wj.heap.size, 0, none⟩) (Nat.le_refl _) _).setCell (p := ⟨wj.heap.size, 1, none⟩) (Nat.le_refl _) _))
                    (first
                      | (go_at_call 43; refine (TC.out wj.drew BB0).mono ?_; rintro e w10 ⟨A2, d2, rfl, ho10, hb10⟩; have HO10 := Lib.hid ho10; have BB1 := Below.then BB0 hb10; have HB10 := Lib.hid BB1; clear hb10 ho10)
                      | (go_at_call 43; refine (TC.out (wj.drew.alloc (.cells #[.int .i64 0, .slice none 0 0] 28)) BB0B).mono ?_; rintro e w10 ⟨A2, d2, rfl, ho10, hb10⟩; have HO10 := Lib.hid ho10; have BB1 := Below.then BB0B hb10; have HB10 := Lib.hid BB1; have HF10 := Lib.hid (HBF.out.below hb10); have v0 := HF10.out.1.1; have v1 := HF10.out.1.2; have f0 := HF10.out.2 0; have f1 := HF10.out.2 1; clear hb10 ho10))
                  all_goals
                    go_wp2_with fail
                    go_meet
                    case rel => first
                      | exact ⟨_, A2, d2, rfl, rfl, Lib.hid (TBox.new w10 a (.slice A2 a d2) 28), Lib.hid (HO10.out.rd.below (below_alloc1 _ _)), Lib.hid (HB10.out.alloc HB10.out.size _)⟩
                      | exact ⟨_, A2, d2, rfl, rfl, Lib.hid (HF10.out.set01 a (.slice A2 a d2)).1, Lib.hid (rd_set01 HO10.out (a : Int) (.slice A2 a d2) (by simp)), Lib.hid ((HB10.out.setCell (p := ⟨wj.heap.size, 0, none⟩) (Nat.le_refl _) _).setCell (p := ⟨wj.heap.size, 1, none⟩) (Nat.le_refl _) _)⟩
                  -- light
              case rest =>
              as_aux_lemma =>
                obtain ⟨bz, A2, d2, rfl, rfl, HZ, HZR, HBZ⟩ := hcut
                have HSc := Lib.hid (HSj.out.next HBZ.out)
                have HRc := Lib.hid (HRj.out.below HBZ.out)
                have HRUc := Lib.hid (HRU.out.below HBZ.out)
                clear HSj HRj HRU HBZ HD HDA HBF ya0 ya1 za0 za1 TC hEA z0 z1 y0 y1 zu
                have y0 := cell_regrown HSc.out.box.1
                have y1 := cell_regrown HSc.out.box.2
                have x0 := cell_regrown HZ.out.1
                have x1 := cell_regrown HZ.out.2
                have z0 := rd_cell HRUc.out rfl (i := 0) (by decide)
                have z1 := rd_cell HRUc.out rfl (i := 1) (by decide)
                rw [show ([(p : Int), (q : Int)]).getD 0 0 = (p : Int) from rfl, Nat.add_zero] at z0
                rw [show ([(p : Int), (q : Int)]).getD 1 0 = (q : Int) from rfl] at z1
                have z0 := cell_regrown z0
                have z1 := cell_regrown z1
                have k1 := quiet_below (w := wc) (fun W' hW => cIsStrong (flip_tourN HP.out hpa hqa HNE.out) (HZR.out.below hW))
                rw [HST.out] at k1
                have k2 := quiet_below (w := wc) (fun W' hW => cBeat HP.out (HSc.out.next hW).tour p q hpa hqa)
                rw [HBT.out] at k2
                go_wp2_with fail
                refine wp_region_below (by kernel_rfl) (by kernel_rfl) ?_
                repeat (go_big_quiet_step (first | (with_reducible exact k1 _ _) | (with_reducible exact k2 _ _)))
                refine wpQuiet_nil ?_
                intro wq hbq0
                have HSq := Lib.hid (HSc.out.next hbq0)
                have HRq := Lib.hid (HRc.out.below hbq0)
                clear hbq0 k1 k2 z0 z1 y0 y1 x0 x1 HSc HRc
                go_wp2
                go_roundw
                case rel => exact ⟨j + 1, by omega, by go_num, HSq, HRq⟩
                case measure => simp [intOf]; omega
            · as_aux_lemma =>
              obtain rfl : j = m2 := by omega
              have hi1 : (i = 1 ∧ ((i : Int) == 1) = true) ∨ (i ≠ 1 ∧ ((i : Int) == 1) = false) := by
                by_cases h : i = 1
                · exact .inl ⟨h, by simp [h]⟩
                · exact .inr ⟨h, by simp; omega⟩
              rcases hi1 with ⟨h1, h2⟩ | ⟨h1, h2⟩
              · have hsb : sb = true := by rw [HSB.out]; exact decide_eq_true h1
                subst hsb
                go_wp2
                go_ret
                exact ⟨rfl, HSj.out.below⟩
              · have hsb : sb = false := by rw [HSB.out]; exact decide_eq_false h1
                subst hsb
                go_wp2
                go_ret
                exact ⟨rfl, HSj.out.below⟩
end Go.Proofs.Ytajeledbmnndmaa

