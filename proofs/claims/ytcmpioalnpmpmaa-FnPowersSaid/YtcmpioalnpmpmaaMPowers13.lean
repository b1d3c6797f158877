/- Texts put together: LFnPowers. -/
import Derived.Test.YtcmpioalnpmpmaaMPowers09
import Derived.Test.YtcmpioalnpmpmaaMPowers12
import Derived.Test.YtcmpioalnpmpmaaMPowers10
import Derived.Test.YtcmpioalnpmpmaaMPowers11
import Derived.Deep.RegionHeld3
import Derived.Deep.DeepCutAuto
namespace Go.Proofs.Ytcmpioalnpmpmaa
open Go.RowKit Go.Sort
set_option maxRecDepth 100000
/-- what stays while the law runs -/
structure PSt (w W : World) (bx n k : Nat) (Y : Option Addr) (cy : Nat) (xs : List Int) (pv qv sv : Value) : Prop where
  below : Below w.heap.size w W
  box : TBox W bx n (.slice Y n cy)
  tour : Rd W (.slice Y n cy) xs
  p : Rd W pv (pwL xs k)
  q : Rd W qv (pwL xs (k + 1))
  s : Rd W sv (scL xs n)
theorem PSt.next {w W W' : World} {bx n k : Nat} {Y : Option Addr} {cy : Nat} {xs : List Int} {pv qv sv : Value} (h : PSt w W bx n k Y cy xs pv qv sv) (hb : Below W.heap.size W W') : PSt w W' bx n k Y cy xs pv qv sv :=
  ⟨Below.then h.below hb, h.box.below hb, h.tour.below hb, h.p.below hb, h.q.below hb, h.s.below hb⟩
structure PTt (w W : World) (bx n k : Nat) (Y : Option Addr) (cy : Nat) (xs : List Int) (pv qv sv ov rv lv : Value) : Prop where
  st : PSt w W bx n k Y cy xs pv qv sv
  o : Rd W ov (ordK (pwL xs k) n)
  r : Rd W rv (rankL (pwL xs k))
  l : RdRows W lv (lvL (pwL xs k))
theorem PTt.next {w W W' : World} {bx n k : Nat} {Y : Option Addr} {cy : Nat} {xs : List Int} {pv qv sv ov rv lv : Value} (h : PTt w W bx n k Y cy xs pv qv sv ov rv lv) (hb : Below W.heap.size W W') : PTt w W' bx n k Y cy xs pv qv sv ov rv lv :=
  ⟨h.st.next hb, h.o.below hb, h.r.below hb, h.l.below hb⟩
set_option maxHeartbeats 8000000 in
theorem lawFnPowers (v0 : Value) (w : World) (h0 : BytesV w w.heap.size v0) :
    Calls Try.prog 3 #[v0] w fun e w' => e = .returned (.bool true) ∧ Below w.heap.size w w' := by
  have HV := Lib.hid h0
  obtain ⟨A0, k0, c0, rfl, hk0, hc0, -⟩ := h0
  unfold maxLen at hc0
  by_cases hn0 : k0 ≤ 1048576
  case neg =>
    have hd0 : decide ((1048576 : Int) < (k0 : Int)) = true := by simp; omega
    go_enter Try.func3, Try.ntmps3
    go_wp2
    go_ret
    exact ⟨rfl, Below.refl _ _⟩
  have hd0 : decide ((1048576 : Int) < (k0 : Int)) = false := by simp; omega
  go_enter Try.func3, Try.ntmps3
  go_wp2_with fail
  refine (makeTour_any w (.slice A0 k0 c0) 0 7 0 7 rfl rfl (by omega) (by omega) (by omega) HV.out).mono ?_
  rintro e w1 ⟨n, sl, xs, rfl, hn7, hp, ho, hb⟩
  obtain ⟨Y, cy, rfl, -, hcy, -⟩ := ho.form
  have HP := Lib.hid hp
  have hn1 : 1 ≤ n := by have := hp.1; omega
  rw [tour_len hp] at *
  have HRD := Lib.hid (ho.rd.below (below_alloc1 w1 (.cells #[.int .i64 n, .slice Y n cy] 25)))
  have HX1 := Lib.hid (TBox.new w1 n (.slice Y n cy) 25)
  have HB1 := Lib.hid (Below.then hb (below_alloc1 w1 (.cells #[.int .i64 n, .slice Y n cy] 25)))
  obtain ⟨bx, hbx⟩ : ∃ bx, bx = w1.heap.size := ⟨_, rfl⟩
  clear ho hb hp
  go_wp2_with fail
  rw [← hbx] at HX1 ⊢
  generalize w1.alloc (.cells #[.int .i64 n, .slice Y n cy] 25) = w2 at *
  clear hbx
  have y0 := HX1.out.1
  go_wp2_with fail
  refine (makeNum_any w2 (.slice A0 k0 c0) 20 20 rfl (by omega) ((HV.out.keep (fun p hp => HB1.out.cell hp)).mono HB1.out.size)).mono ?_
  rintro e w3 ⟨K, rfl, hK, hb3⟩
  obtain ⟨k, hk⟩ : ∃ k, k = K % 9 := ⟨_, rfl⟩
  have hk8 : k ≤ 8 := by omega
  have ek : Int.tmod (K : Int) 9 = (k : Int) := by rw [Int.tmod_eq_emod_of_nonneg (by omega)]; omega
  have ek2 : (K : Int) % 9 = (k : Int) := by omega
  have HX3 := Lib.hid (HX1.out.below hb3)
  have HRD3 := Lib.hid (HRD.out.below hb3)
  have HB3 := Lib.hid (Below.then HB1.out hb3)
  clear hb3 HX1 HRD HB1 y0 hk hK
  have y0 := HX3.out.1
  have y1 := HX3.out.2
  go_wp2_with fail
  refine (cPow HP.out HRD3.out k k rfl (by omega)).mono ?_
  rintro e w4 ⟨PA, pc, rfl, ho4, hb4⟩
  have HP4 := Lib.hid ho4.rd
  have HX4 := Lib.hid (HX3.out.below hb4)
  have HRD4 := Lib.hid (HRD3.out.below hb4)
  have HB4 := Lib.hid (Below.then HB3.out hb4)
  clear ho4 hb4 HX3 HRD3 HB3 y0 y1 ek ek2
  have y0 := HX4.out.1
  have y1 := HX4.out.2
  have ek1 : IntKind.i64.wrap ((k : Int) + 1) = ((k + 1 : Nat) : Int) := by rw [IntWalk.i64_in _ (by omega)]; omega
  go_wp2_with fail
  refine (cPow HP.out HRD4.out (k + 1) _ rfl (by omega)).mono ?_
  rintro e w5 ⟨QA, qc, rfl, ho5, hb5⟩
  have HQ5 := Lib.hid ho5.rd
  have HP5 := Lib.hid (HP4.out.below hb5)
  have HX5 := Lib.hid (HX4.out.below hb5)
  have HRD5 := Lib.hid (HRD4.out.below hb5)
  have HB5 := Lib.hid (Below.then HB4.out hb5)
  clear ho5 hb5 HX4 HRD4 HB4 HP4 y0 y1 ek1
  have y0 := HX5.out.1
  have y1 := HX5.out.2
  go_wp2_with fail
  refine (scores_any n _ xs w5 HRD5.out HP.out).mono ?_
  rintro e w6 ⟨SA, sc, rfl, ho6, hb6⟩
  have HS6 : Hid (PSt w w6 bx n k Y cy xs (.slice PA n pc) (.slice QA n qc) (.slice SA n sc)) := Lib.hid ⟨Below.then HB5.out hb6, HX5.out.below hb6, HRD5.out.below hb6, HP5.out.below hb6, HQ5.out.below hb6, ho6.rd⟩
  clear ho6 hb6 HX5 HRD5 HB5 HP5 HQ5 y0 y1
  have y0 := HS6.out.box.1
  have y1 := HS6.out.box.2
  have T1 : Hid (∀ W v, Rd W v (pwL xs 1) → PSt w W bx n k Y cy xs (.slice PA n pc) (.slice QA n qc) (.slice SA n sc) → Calls Try.prog 13 #[v, .slice SA n sc] W fun e w' => e = .returned (.bool true) ∧ W = w') := Lib.hid fun W v hv hS => same_yes _ _ (scL xs n) W (by rw [← pw_one HP.out]; exact hv) hS.s
  have T2 : Hid (∀ W v, Rd W v (dsL xs) → Calls Try.prog 15 #[v] W fun e w' => e = .returned (.int .i64 0) ∧ W = w') := Lib.hid fun W v hv => by
    have := sum_any W v (dsL xs) 200 hv (by unfold dsL; simp [tour_len HP.out]; omega) (by omega) (ds_bd HP.out)
    rwa [ds_zero HP.out] at this
  have HSd : Hid (PSt w w6.drew bx n k Y cy xs (.slice PA n pc) (.slice QA n qc) (.slice SA n sc)) := Lib.hid (HS6.out.next (Below.refl _ _).drew)
  go_wp2_with fail
  go_region_held3 (fun W => W.cell? ⟨bx, 0, none⟩ = some (.int .i64 n) ∧ W.cell? ⟨bx, 1, none⟩ = some (.slice Y n cy))
    (first | exact ⟨y0, y1⟩ | exact HSd.out.box | exact G1.out.box | exact G2.out.box | exact G3.out.box | exact G4.out.box | exact G5.out.box)
    (first
      | (go_at_call 16; refine (cDef HP.out G4.out.tour).mono ?_; rintro e v5 ⟨A5, c5, rfl, o5, b5⟩; have G5 := Lib.hid (G4.out.next b5); clear o5 b5)
      | (go_at_call 15; refine (T2.out _ _ R4.out).mono ?_; rintro e vx ⟨rfl, rfl⟩)
      | (go_at_call 16; refine (cDef HP.out G3.out.tour).mono ?_; rintro e v4 ⟨A4, c4, rfl, o4, b4⟩; have G4 := Lib.hid (G3.out.next b4); have R4 := Lib.hid o4.rd; clear o4 b4)
      | (go_at_call 13; refine (same_yes _ _ (pwL xs 2) v3 R23.out R3.out).mono ?_; rintro e vx ⟨rfl, rfl⟩)
      | (go_at_call 14; refine (cSec HP.out G2.out.tour).mono ?_; rintro e v3 ⟨A3, c3, rfl, o3, b3⟩; have G3 := Lib.hid (G2.out.next b3); have R3 := Lib.hid o3.rd; have R23 := Lib.hid (R2.out.below b3); clear o3 b3)
      | (go_at_call 11; refine (cPow HP.out G1.out.tour 2 2 rfl (by omega)).mono ?_; rintro e v2 ⟨A2, c2, rfl, o2, b2⟩; have G2 := Lib.hid (G1.out.next b2); have R2 := Lib.hid o2.rd; clear o2 b2)
      | (go_at_call 13; refine (T1.out _ _ R1.out G1.out).mono ?_; rintro e vx ⟨rfl, rfl⟩)
      | (go_at_call 11; refine (cPow HP.out HSd.out.tour 1 1 rfl (by omega)).mono ?_; rintro e v1 ⟨A1, c1, rfl, o1, b1⟩; have G1 := Lib.hid (HSd.out.next b1); have R1 := Lib.hid o1.rd; clear o1 b1))
  have HS := Lib.hid G5.out
  clear G5 G4 G3 G2 G1 R1 R2 R3 R23 R4 T1 T2 HSd HS6 y0 y1
  obtain ⟨pg, po, rfl⟩ := rd_at HS.out.p (by rw [pwL_len, tour_len HP.out]) hn1
  obtain ⟨qg, qo, rfl⟩ := rd_at HS.out.q (by rw [pwL_len, tour_len HP.out]) hn1
  obtain ⟨sg, so, rfl⟩ := rd_at HS.out.s (by rw [scL_len]) hn1
  generalize v5 = w7 at *
  go_wp2
  go_loopw [9, 10] (fun t9 t10 wr => ∃ (c : Nat) (x9 : Int), c ≤ n ∧ t10 = .int .i64 c ∧ t9 = .int .i64 x9 ∧ 0 ≤ x9 ∧ x9 ≤ 805306368 * c ∧ Hid (x9 = sumN (fun a => (pwL xs k).getD a 0 * (n - 1 - scN xs a)) c) ∧ Hid (PSt w wr bx n k Y cy xs (.slice (some ⟨pg, po, none⟩) n pc) (.slice (some ⟨qg, qo, none⟩) n qc) (.slice (some ⟨sg, so, none⟩) n sc))) (fun _ t10 _ => n - (intOf t10).toNat)
  case atStart => exact ⟨0, 0, by omega, rfl, rfl, by omega, by omega, Lib.hid rfl, HS⟩
  case round =>
    obtain ⟨wo, rfl⟩ : ∃ x, x = wr := ⟨_, rfl⟩
    obtain ⟨c, x9, hc, rfl, rfl, a9, b9, H9, HS1⟩ := hrel
    clear HS
    by_cases hlt : c < n
    · as_aux_lemma =>
        -- heavy
        go_wp2
        go_loopw [11, 12] (fun t11 t12 wr => ∃ (b : Nat) (y : Int), b ≤ n ∧ t12 = .int .i64 b ∧ t11 = .int .i64 y ∧ 0 ≤ y ∧ y ≤ 134217728 * b ∧ Hid (y = sumN (fun b => if bt xs c b = true then (pwL xs k).getD b 0 else 0) b) ∧ Hid (PSt w wr bx n k Y cy xs (.slice (some ⟨pg, po, none⟩) n pc) (.slice (some ⟨qg, qo, none⟩) n qc) (.slice (some ⟨sg, so, none⟩) n sc))) (fun _ t12 _ => n - (intOf t12).toNat)
        case atStart => exact ⟨0, 0, by omega, rfl, rfl, by omega, by omega, Lib.hid rfl, HS1⟩
        case round =>
          obtain ⟨wi, rfl⟩ : ∃ x, x = wr := ⟨_, rfl⟩
          obtain ⟨b, y, hb, rfl, rfl, ya, yb, HY, HS2⟩ := hrel
          clear HS1
          by_cases hlt2 : b < n
          · have y0 := HS2.out.box.1
            have y1 := HS2.out.box.2
            have HSN := Lib.hid (show sumN (fun b => if bt xs c b = true then (pwL xs k).getD b 0 else 0) (b + 1) = sumN (fun b => if bt xs c b = true then (pwL xs k).getD b 0 else 0) b + if bt xs c b = true then (pwL xs k).getD b 0 else 0 from rfl)
            rw [← HY.out] at HSN
            have HBD := Lib.hid (pw_bd xs (k := k) (by omega) b)
            go_wp2_with fail
            refine (cBeat HP.out HS2.out.tour c b hlt hlt2).mono ?_
            rintro e w8 ⟨rfl, hb8⟩
            have HS3 := Lib.hid (HS2.out.next hb8)
            clear hb8 HS2 y0 y1 HY
            rcases q : bt xs c b with _ | _
            · rw [q, if_neg (by decide), Int.add_zero] at HSN
              go_wp2
              go_roundw
              case rel => exact ⟨b + 1, y, by omega, by go_num, rfl, by omega, by omega, Lib.hid HSN.out.symm, HS3⟩
              case measure => simp [intOf]; omega
            · rw [q, if_pos rfl] at HSN
              have zp := rd_cell HS3.out.p (by rw [pwL_len, tour_len HP.out]) hlt2
              have hbd := HBD.out
              generalize (pwL xs k).getD b 0 = pb at *
              obtain ⟨p1, p2⟩ := hbd
              clear HBD
              go_wp2
              go_roundw
              case rel => exact ⟨b + 1, y + pb, by omega, by go_num, by first | rfl | go_num, by omega, by omega, Lib.hid HSN.out.symm, HS3⟩
              case measure => simp [intOf]; omega
          · obtain rfl : b = n := by omega
            have HE := Lib.hid (HY.out.trans (pw_next HP.out k hlt).symm)
            have HSN := Lib.hid (show sumN (fun a => (pwL xs k).getD a 0 * ((b : Int) - 1 - scN xs a)) (c + 1) = sumN (fun a => (pwL xs k).getD a 0 * (b - 1 - scN xs a)) c + (pwL xs k).getD c 0 * (b - 1 - scN xs c) from rfl)
            rw [← H9.out] at HSN
            have HBD := Lib.hid (pw_bd xs (k := k) (by omega) c)
            have HSB := Lib.hid (sc_bd HP.out hlt)
            have zp := rd_cell HS2.out.p (by rw [pwL_len, tour_len HP.out]) hlt
            have zq := rd_cell HS2.out.q (by rw [pwL_len, tour_len HP.out]) hlt
            have zs := rd_cell HS2.out.s (by rw [scL_len]) hlt
            rw [scL_at xs hlt] at zs
            rw [← HE.out] at zq
            have hbd := HBD.out
            have hsb := HSB.out
            have HM := Lib.hid (pw_mul hbd.1 hbd.2 (d := (b : Int) - 1 - scN xs c) (by omega) (by omega))
            generalize (pwL xs k).getD c 0 = pp at *
            generalize scN xs c = ss at *
            obtain ⟨p1, p2⟩ := hbd
            obtain ⟨s1, s2⟩ := hsb
            clear HBD HSB HE HY H9
            have u1 : IntKind.i64.wrap ((b : Int) - 1) = (b : Int) - 1 := IntWalk.i64_in _ (by omega)
            have u2 : IntKind.i64.wrap ((b : Int) - 1 - ss) = (b : Int) - 1 - ss := IntWalk.i64_in _ (by omega)
            have hm := HM.out
            generalize hmm : pp * ((b : Int) - 1 - ss) = mm at *
            have HMM := Lib.hid hmm
            clear hmm HM
            obtain ⟨m1, m2⟩ := hm
            have U3 : Hid (wrap64 (pp * ((b : Int) - 1 - ss)) = mm) := Lib.hid (by rw [HMM.out]; unfold wrap64; omega)
            have U4 : Hid (wrap64 (x9 + mm) = x9 + mm) := Lib.hid (by unfold wrap64; omega)
            have u3 : IntKind.i64.wrap mm = mm := IntWalk.i64_in _ (by omega)
            have u4 : IntKind.i64.wrap (x9 + mm) = x9 + mm := IntWalk.i64_in _ (by omega)
            go_wp2_with fail
            have z0 := cell_regrown zp
            have z1 := cell_regrown zq
            have z2 := cell_regrown zs
            clear zp zq zs
            refine wp_region_below (by kernel_rfl) (by kernel_rfl) ?_
            repeat (go_big_quiet_step (first | (with_reducible fail)))
            refine wpQuiet_nil ?_
            intro wq hbq0
            have HS3 := Lib.hid (HS2.out.next hbq0)
            clear hbq0 z0 z1 z2 HS2
            go_wp2
            go_roundw
            case rel => exact ⟨c + 1, x9 + mm, by omega, by go_num, by rw [U3.out, U4.out], by omega, by omega, Lib.hid HSN.out.symm, HS3⟩
            case measure => simp [intOf]; omega
        -- light
    · as_aux_lemma =>
        obtain rfl : c = n := by omega
        have H9' := Lib.hid (H9.out.trans (pw_total HP.out k).symm)
        have T3 : Hid (∀ W, Rd W (.slice (some ⟨qg, qo, none⟩) c qc) (pwL xs (k + 1)) → Calls Try.prog 15 #[.slice (some ⟨qg, qo, none⟩) c qc] W fun e w' => e = .returned (.int .i64 x9) ∧ W = w') := Lib.hid fun W hv => by
          have := sum_any W _ (pwL xs (k + 1)) 134217728 hv (by rw [pwL_len, tour_len HP.out]; omega) (by omega) (pw_mem xs (by omega))
          rwa [← H9'.out] at this
        clear H9 H9' a9 b9
        go_wp2_with fail
        refine (cOrd (by rw [pwL_len, tour_len HP.out]) (by omega) HS1.out.p).mono ?_
        rintro e w8 ⟨OA, oc, rfl, ho8, hb8⟩
        have HS8 := Lib.hid (HS1.out.next hb8)
        have HO8 := Lib.hid ho8.rd
        clear ho8 hb8 HS1
        go_wp2_with fail
        refine (cRank (by rw [pwL_len, tour_len HP.out]) (by omega) HS8.out.p).mono ?_
        rintro e w9 ⟨RA, rc, rfl, ho9, hb9⟩
        have HS9 := Lib.hid (HS8.out.next hb9)
        have HO9 := Lib.hid (HO8.out.below hb9)
        have HR9 := Lib.hid ho9.rd
        clear ho9 hb9 HS8 HO8
        go_wp2_with fail
        refine (cLev HS9.out.p).mono ?_
        rintro e w10 ⟨lv, rfl, ho10, hb10⟩
        obtain ⟨LA, lc, rfl, hlc1, hlc2, -⟩ := ho10.form
        have HT : Hid (PTt w w10 bx c k Y cy xs (.slice (some ⟨pg, po, none⟩) c pc) (.slice (some ⟨qg, qo, none⟩) c qc) (.slice (some ⟨sg, so, none⟩) c sc) (.slice OA c oc) (.slice RA c rc) (.slice LA (lvL (pwL xs k)).length lc)) := Lib.hid ⟨HS9.out.next hb10, HO9.out.below hb10, HR9.out.below hb10, ho10.rdr⟩
        clear ho10 hb10 HS9 HO9 HR9
        have HL40 := lvL_len_le (pwL xs k)
        have y0 := HT.out.st.box.1
        have y1 := HT.out.st.box.2
        go_wp2_with fail
        refine (T3.out _ HT.out.st.q).mono ?_
        rintro e vx ⟨rfl, rfl⟩
        go_wp2_with fail
        refine (cPOrd HP.out HT.out.st.tour k (by omega)).mono ?_
        rintro e w11 ⟨A1, c1, rfl, o1, b1⟩
        have HT1 := Lib.hid (HT.out.next b1)
        have R1 := Lib.hid o1.rd
        clear o1 b1 y0 y1 HT T3
        go_wp2_with fail
        refine (same_yes _ _ (ordK (pwL xs k) c) w11 R1.out HT1.out.o).mono ?_
        rintro e vx ⟨rfl, rfl⟩
        clear R1
        go_wp2_with fail
        refine (cAgree HT1.out.st.p HT1.out.st.p).mono ?_
        rintro e w12 ⟨rfl, b2⟩
        have HT2 := Lib.hid (HT1.out.next b2)
        rw [agree_self _ (by rw [pwL_len, tour_len HP.out]; omega)]
        clear b2 HT1
        obtain ⟨og, oo, rfl⟩ := rd_at HT2.out.o (by rw [ordK_len]) hn1
        obtain ⟨rg, ro, rfl⟩ := rd_at HT2.out.r (by rw [rankL_len' (by rw [pwL_len, tour_len HP.out]; omega), pwL_len, tour_len HP.out]) hn1
        go_wp2
        go_loopw [16] (fun t16 wr => ∃ i : Nat, 1 ≤ i ∧ i ≤ c ∧ t16 = .int .i64 i ∧ Hid (PTt w wr bx c k Y cy xs (.slice (some ⟨pg, po, none⟩) c pc) (.slice (some ⟨qg, qo, none⟩) c qc) (.slice (some ⟨sg, so, none⟩) c sc) (.slice (some ⟨og, oo, none⟩) c oc) (.slice (some ⟨rg, ro, none⟩) c rc) (.slice LA (lvL (pwL xs k)).length lc))) (fun t16 _ => c - (intOf t16).toNat)
        case atStart => exact ⟨1, by omega, by omega, rfl, HT2⟩
        case round =>
          obtain ⟨wj, rfl⟩ : ∃ x, x = wr := ⟨_, rfl⟩
          obtain ⟨i, hi1, hi, rfl, HT⟩ := hrel
          clear HT2
          by_cases hlt : i < c
          · as_aux_lemma =>
              -- heavy
              obtain ⟨j, rfl⟩ : ∃ j, i = j + 1 := ⟨i - 1, by omega⟩
              obtain ⟨a, b, ha, hb, ea, eb, hle, htie, hrk⟩ := ord_pair (L := pwL xs k) (n := c) (by rw [pwL_len, tour_len HP.out]) (by omega) hlt
              have zo1 := rd_cell HT.out.o (by rw [ordK_len]) (i := j) (by omega)
              have zo2 := rd_cell HT.out.o (by rw [ordK_len]) (i := j + 1) hlt
              have zpa := rd_cell HT.out.st.p (by rw [pwL_len, tour_len HP.out]) ha
              have zpb := rd_cell HT.out.st.p (by rw [pwL_len, tour_len HP.out]) hb
              have zra := rd_cell HT.out.r (by rw [rankL_len' (by rw [pwL_len, tour_len HP.out]; omega), pwL_len, tour_len HP.out]) ha
              have zrb := rd_cell HT.out.r (by rw [rankL_len' (by rw [pwL_len, tour_len HP.out]; omega), pwL_len, tour_len HP.out]) hb
              rw [ea] at zo1
              rw [eb] at zo2
              clear ea eb
              generalize (pwL xs k).getD a 0 = pa at *
              generalize (pwL xs k).getD b 0 = pb at *
              generalize (rankL (pwL xs k)).getD a 0 = ra at *
              generalize (rankL (pwL xs k)).getD b 0 = rb at *
              have ej : IntKind.i64.wrap ((j : Int) + 1 - 1) = (j : Int) := by rw [IntWalk.i64_in _ (by omega)]; omega
              have c1 : decide (pa < pb) = false := by simp; omega
              have c2 : decide (rb < ra) = false := by simp; omega
              have c7 : decide ((a : Int) < 0) = false := by simp
              have c8 : decide ((b : Int) < 0) = false := by simp
              have c9n : decide (c ≤ a) = false := by simp; omega
              have c10n : decide (c ≤ b) = false := by simp; omega
              have c9 : decide ((c : Int) ≤ (a : Int)) = false := by simp; omega
              have c10 : decide ((c : Int) ≤ (b : Int)) = false := by simp; omega
              by_cases hpe : pb = pa
              · as_aux_lemma =>
                have hab := htie hpe
                subst hpe
                have c11n : decide (b < a) = false := by simp; omega
                have c11 : decide ((b : Int) < (a : Int)) = false := by simp; omega
                clear htie hrk hle
                go_wp2_with fail
                have z1 := cell_regrown zo1
                have z2 := cell_regrown zo2
                have z3 := cell_regrown zpa
                have z4 := cell_regrown zpb
                have z5 := cell_regrown zra
                have z6 := cell_regrown zrb
                clear zo1 zo2 zpa zpb zra zrb
                refine wp_region_below (by kernel_rfl) (lexB_cheap (by kernel_rfl) (by kernel_rfl)) ?_
                simp only [List.append_eq, List.cons_append, List.nil_append]
                repeat (go_big_quiet_step (first | (with_reducible fail)))
                refine wpQuiet_nil ?_
                intro wq hbq0
                have HT8 := Lib.hid (HT.out.next hbq0)
                clear hbq0 z1 z2 z3 z4 z5 z6 HT
                go_wp2
                go_roundw
                case rel => exact ⟨j + 1 + 1, by omega, by omega, by go_num, HT8⟩
                case measure => simp [intOf]; omega
              · as_aux_lemma =>
                have c3 : (pb == pa) = false := by simp; omega
                clear htie hrk hle
                go_wp2_with fail
                have z1 := cell_regrown zo1
                have z2 := cell_regrown zo2
                have z3 := cell_regrown zpa
                have z4 := cell_regrown zpb
                have z5 := cell_regrown zra
                have z6 := cell_regrown zrb
                clear zo1 zo2 zpa zpb zra zrb
                refine wp_region_below (by kernel_rfl) (lexB_cheap (by kernel_rfl) (by kernel_rfl)) ?_
                simp only [List.append_eq, List.cons_append, List.nil_append]
                repeat (go_big_quiet_step (first | (with_reducible fail)))
                refine wpQuiet_nil ?_
                intro wq hbq0
                have HT8 := Lib.hid (HT.out.next hbq0)
                clear hbq0 z1 z2 z3 z4 z5 z6 HT
                go_wp2
                go_roundw
                case rel => exact ⟨j + 1 + 1, by omega, by omega, by go_num, HT8⟩
                case measure => simp [intOf]; omega
              -- light
          · as_aux_lemma =>
              obtain rfl : i = c := by omega
              have HM40 : Hid ((lvL (pwL xs k)).length ≤ 40) := HL40
              have HFL : Hid ((lvL (pwL xs k)).flatten = ordK (pwL xs k) i) := Lib.hid (by rw [lvL_flat, obL_eq (by rw [pwL_len, tour_len HP.out]; omega), pwL_len, tour_len HP.out])
              have HRW := Lib.hid (fun (j : Nat) h => @lvL_rows (pwL xs k) j h)
              have HLV := Lib.hid (levels_one (L := pwL xs k) (by rw [pwL_len, tour_len HP.out]; omega) (by rw [pwL_len, tour_len HP.out]; omega))
              generalize hrows : lvL (pwL xs k) = rows at *
              generalize hm : rows.length = m at *
              have HM := Lib.hid hm
              have HRS := Lib.hid hrows
              have hm40 := HM40.out
              clear hm hrows HL40 HM40
              have HF0 := Lib.hid (Own.lit wj wj.heap.size [] (by simp) (by simp))
              have HBZ := Lib.hid (below_alloc1 wj (.cells #[] 3))
              go_wp2
              go_loopw [17, 260] (fun t17 t260 wr => ∃ (j : Nat) (v : Value), j ≤ m ∧ t260 = .int .i64 j ∧ v = t17 ∧ Hid (Own wr wj.heap.size v (rows.take j).flatten) ∧ Hid (Below wj.heap.size wj wr)) (fun _ t260 _ => m - (intOf t260).toNat)
              case atStart => exact ⟨0, _, by omega, rfl, rfl, Lib.hid (by simpa using HF0.out), HBZ⟩
              case round =>
                obtain ⟨wk, rfl⟩ : ∃ x, x = wr := ⟨_, rfl⟩
                obtain ⟨j, t17, hj, rfl, rfl, HF, HB⟩ := hrel
                clear HF0 HBZ
                by_cases hlt4 : j < m
                · as_aux_lemma =>
                    have HTk := Lib.hid (HT.out.next HB.out)
                    have hl := HTk.out.l
                    rw [HRS.out] at hl
                    obtain ⟨lg, u, rfl, hcu, hru⟩ := rd_rows hl hlt4
                    have hrw := HRW.out j hlt4
                    have HTF := Lib.hid (take_flat rows (j := j) (by rw [HM.out]; exact hlt4))
                    have hfl := take_flat_le rows j
                    rw [HFL.out, ordK_len] at hfl
                    have HFQ := Lib.hid hfl
                    generalize hrow : rows.getD j [] = row at *
                    generalize hff : (rows.take j).flatten = FL at *
                    obtain ⟨AU, cu, rfl, -, hcu2, hux⟩ := hru
                    obtain ⟨ug, uo, rfl, hug, huc⟩ := hux (by omega)
                    have HUC := Lib.hid huc
                    have hq1 := hrw.1
                    have hq2 := hrw.2
                    have hsz := HB.out.size
                    have hfl2 : FL.length + row.length ≤ 1099511627776 := by omega
                    have hfo := HF.out
                    clear hl hrow hff hrw hux huc hfl
                    generalize hqq : row.length = qq at *
                    have HQ := Lib.hid hqq
                    clear hqq
                    go_wp2_with (at_builtin; refine wp_appendN wk rfl (.tmp 264) (.tmp 265) rfl wj.heap.size _ FL rfl hfo ⟨ug, uo, none⟩ cu row (by rw [HQ.out]; rfl) (by intro z hz; rw [Addr.add_lit]; exact HUC.out z (by rw [← HQ.out]; exact hz)) (by rw [HQ.out]; exact hfl2) hsz ?_; intro v' w7 hown1 hg1; have HO7 := Lib.hid hown1; have HB7 := Lib.hid (below_append HB.out hg1 hfo (Nat.le_refl _) hsz); clear hown1 hg1)
                    go_roundw
                    case rel => exact ⟨j + 1, _, by omega, by go_num, rfl, by rw [HTF.out]; exact HO7, HB7⟩
                    case measure => simp [intOf]; omega
                · as_aux_lemma =>
                    obtain rfl : j = m := by omega
                    have HFO : Hid (Rd wk t17 (ordK (pwL xs k) i)) := Lib.hid (by
                      have := HF.out.rd
                      rw [show rows.take j = rows by rw [← HM.out]; exact List.take_length, HFL.out] at this
                      exact this)
                    have HTk := Lib.hid (HT.out.next HB.out)
                    obtain ⟨FA, fc, eF, -, -, -⟩ := HFO.out
                    rw [ordK_len] at eF
                    subst eF
                    have HF0 := Lib.hid (Own.lit wk wk.heap.size [] (by simp) (by simp))
                    have HBZ := Lib.hid (below_alloc1 wk (.cells #[] 3))
                    clear HF HT HB HRW HFL
                    go_wp2
                    go_loopw [20, 271] (fun t20 t271 wr => ∃ (z : Nat) (v : Value), z ≤ i ∧ t271 = .int .i64 z ∧ v = t20 ∧ Hid (Own wr wk.heap.size v ((negL (pwL xs k)).take z)) ∧ Hid (Below wk.heap.size wk wr)) (fun _ t271 _ => i - (intOf t271).toNat)
                    case atStart => exact ⟨0, _, by omega, rfl, rfl, Lib.hid (by simpa using HF0.out), HBZ⟩
                    case round =>
                      obtain ⟨wl, rfl⟩ : ∃ x, x = wr := ⟨_, rfl⟩
                      obtain ⟨z, t20, hz, rfl, rfl, HD, HB⟩ := hrel
                      clear HF0 HBZ
                      by_cases hlt5 : z < i
                      · as_aux_lemma =>
                          have zp := rd_cell (HTk.out.next HB.out).st.p (by rw [pwL_len, tour_len HP.out]) hlt5
                          have HN := Lib.hid (negL_take (pwL xs k) (j := z) (by rw [pwL_len, tour_len HP.out]; exact hlt5))
                          have hb := pw_bd xs (k := k) (by omega) z
                          have hfl : ((negL (pwL xs k)).take z).length ≤ 1099511627776 := by rw [List.length_take]; omega
                          generalize (pwL xs k).getD z 0 = pz at *
                          generalize (negL (pwL xs k)).take z = ND at *
                          obtain ⟨p1, p2⟩ := hb
                          have w1 : IntKind.i64.wrap (-pz) = -pz := IntWalk.i64_in _ (by omega)
                          have w2 : wrap64 (-pz) = -pz := by unfold wrap64; omega
                          have hsz := HB.out.size
                          have hfo := HD.out
                          go_wp2_with (at_builtin; refine wp_append1 wl rfl (.tmp 275) (.tmp 278) rfl wk.heap.size _ ND (-pz) rfl hfo (by simp [Act.eval]) hfl hsz ?_; intro v' w7 hown1 hg1; have HO7 := Lib.hid hown1; have HB7 := Lib.hid (below_append HB.out hg1 hfo (Nat.le_refl _) hsz); clear hown1 hg1)
                          go_roundw
                          case rel => exact ⟨z + 1, _, by omega, by go_num, rfl, by rw [HN.out]; exact HO7, HB7⟩
                          case measure => simp [intOf]; omega
                      · as_aux_lemma =>
                          obtain rfl : z = i := by omega
                          have HD2 : Hid (Rd wl t20 (negL (pwL xs k))) := Lib.hid (by
                            have := HD.out.rd
                            rwa [show (negL (pwL xs k)).take z = negL (pwL xs k) from List.take_of_length_le (by rw [negL_len, pwL_len, tour_len HP.out]; omega)] at this)
                          have HTl := Lib.hid (HTk.out.next HB.out)
                          have HFl := Lib.hid (HFO.out.below HB.out)
                          obtain ⟨DA, dc, eD, -, -, -⟩ := HD2.out
                          subst eD
                          clear HD HB HTk HFO
                          have hb1 : ((j : Int) == 1) = decide (j = 1) := by
                            by_cases h : j = 1
                            · subst h; rfl
                            · rw [decide_eq_false h]; simp; omega
                          go_wp2_with fail
                          refine (same_yes _ _ (ordK (pwL xs k) z) wl HFl.out HTl.out.o).mono ?_
                          rintro e vx ⟨rfl, rfl⟩
                          go_wp2_with fail
                          refine (cAgree HTl.out.st.p HD2.out).mono ?_
                          rintro e w15 ⟨rfl, b2⟩
                          rw [HLV.out]
                          have HTm := Lib.hid (HTl.out.next b2)
                          have HDm := Lib.hid (HD2.out.below b2)
                          clear b2 HTl HD2 HFl
                          rcases hm1 : decide (j = 1) with _ | _
                          all_goals
                            rw [hm1] at hb1
                            go_wp2_with fail
                            refine (cAgree HDm.out HTm.out.r).mono ?_
                            rintro e w16 ⟨rfl, b3⟩
                            rw [agree_rank _ (by rw [pwL_len, tour_len HP.out]; omega)]
                            have HBE := Lib.hid ((HTm.out.next b3).st.below)
                            clear b3
                            go_wp2
                            go_ret
                            exact ⟨rfl, HBE.out⟩
end Go.Proofs.Ytcmpioalnpmpmaa

