/- FnExactLeastName: spec.LeastName. -/
import Derived.Test.YtceeplhkokajhabLeastI
import Derived.Test.YtceeplhkokajhabLess
import Derived.Test.YtceeplhkokajhabCSymS
namespace Go.Proofs.Ytceeplhkokajhab
open Go.RowKit Go.Sort
set_option maxRecDepth 100000
theorem pick_perm {n : Nat} {xs : List Int} (hp : tourP n xs) (hn : xs.length = n) (h6 : n ≤ 6) : pickL xs (namesL n) xs = pickL xs (ordL n) xs := by
  subst hn
  exact least_unique hp (pick_is hp fun ns => (names_perm h6).mem_iff) (pick_is hp fun _ => Iff.rfl)
def LnW (w0 : World) (xs : List Int) (bb tb rb n : Nat) (sl : Value) (done : List (List Nat)) (W : World) : Prop :=
  ∃ Y cy, BoxF W bb n (.slice Y n cy) ∧ Own W w0.heap.size (.slice Y n cy) (pickL xs done xs) ∧ (∀ r, (Value.slice Y n cy).ownBlock = some r → r ≠ bb ∧ r ≠ rb) ∧ TBox W tb n sl ∧ BoxF W rb 0 (.slice none 0 0) ∧ Below w0.heap.size w0 W
theorem nb_of {v : Value} {bb : Nat} (h : ∀ r, v.ownBlock = some r → r ≠ bb) : v.ownBlock = none ∨ v.ownBlock ≠ some bb := by
  rcases e : v.ownBlock with _ | k
  · exact .inl rfl
  · exact .inr (fun e2 => by injection e2 with e2; exact h k e e2)
set_option maxHeartbeats 8000000 in
theorem specLeast (s : Int) (sl : Value) (xs : List Int) (w : World) (h : Rd w sl xs) :
    Calls Try.prog 15 #[.agg #[.int .i64 s, sl]] w fun e w' => ∃ sl', e = .returned (.tuple #[.agg #[.int .i64 (lnS s xs), sl'], .bool (symB6 s xs)]) ∧ Own w' w.heap.size sl' (lnL s xs) ∧ Below w.heap.size w w' := by
  have HR := Lib.hid h
  obtain ⟨A, c, rfl, -, hcm, -⟩ := h
  unfold maxLen at hcm
  rcases q0 : tourB s xs with _ | _
  · have hE := ln_no (s := s) (xs := xs) (by simp [symB6, q0])
    rw [hE.1, hE.2, show symB6 s xs = false by simp [symB6, q0]]
    clear hE
    go_enter Try.func15, Try.ntmps15
    go_wp2_with fail
    have b0 := (below_alloc1 w (.cells #[.int .i64 s, .slice A xs.length c] 27)).alloc (by simp) (.cells #[.int .i64 0, .slice none 0 0] 27)
    have x0 := (TBox.new w s (.slice A xs.length c) 27).below (below_alloc1 _ (.cells #[.int .i64 0, .slice none 0 0] 27))
    have t0 := BoxF.new (w.alloc (.cells #[.int .i64 s, .slice A xs.length c] 27)) 0 (.slice none 0 0) 27
    simp only [World.size_alloc] at t0
    generalize (w.alloc (.cells #[.int .i64 s, .slice A xs.length c] 27)).alloc (.cells #[.int .i64 0, .slice none 0 0] 27) = w0 at *
    have HX0 := Lib.hid x0
    have HB0 := Lib.hid b0
    have HT0 := Lib.hid t0
    clear x0 b0 t0
    have y0_0 := HX0.out.1
    have y1_0 := HX0.out.2
    go_wp2_with fail
    refine (specTourOk s _ xs _ (HR.out.below HB0.out)).mono ?_
    rintro e w1 ⟨rfl, hb⟩
    have HX1 := Lib.hid (HX0.out.below hb)
    have HT1 := Lib.hid (HT0.out.below hb)
    have HB1 := Lib.hid (Below.then HB0.out hb)
    clear hb HX0 HT0 HB0 y0_0 y1_0
    have y0_1 := HX1.out.1
    have y1_1 := HX1.out.2
    rw [q0]
    have v0 := HT1.out.1.1
    have v1 := HT1.out.1.2
    have f0 := HT1.out.2 0
    have f1 := HT1.out.2 1
    have HBx := Lib.hid ((HB1.out.setCell (p := ⟨w.heap.size + 1, 0, none⟩) (by simp) (.int .i64 0)).setCell (p := ⟨w.heap.size + 1, 1, none⟩) (by simp) (.slice none 0 0))
    have R0 : Hid (((w1.setCell ⟨w.heap.size + 1, 0, none⟩ (.int .i64 0)).setCell ⟨w.heap.size + 1, 1, none⟩ (.slice none 0 0)).cell? ⟨w.heap.size + 1, 0, none⟩ = some (.int .i64 0)) := (World.cell?_setCell_other _ _ _ _ (by simp)).trans (World.cell?_setCell_same _ _ _ v0)
    have R1 : Hid (((w1.setCell ⟨w.heap.size + 1, 0, none⟩ (.int .i64 0)).setCell ⟨w.heap.size + 1, 1, none⟩ (.slice none 0 0)).cell? ⟨w.heap.size + 1, 1, none⟩ = some (.slice none 0 0)) := World.cell?_setCell_same _ _ _ ((World.cell?_setCell_other _ _ _ _ (by simp)).trans v1)
    go_wp2
    have r0 := R0.out
    have r1 := R1.out
    refine bodyPost_ret (v := .tuple #[.agg #[.int .i64 0, .slice none 0 0], .bool false]) (by simp only [results, Try.results15]; simp [go_sem, r0, r1]) rfl ⟨_, rfl, Own.nil_ _ _, HBx.out⟩
  · have hp := tourB_true.1 q0
    have hs := hp.1
    have hsl := hp.2.1
    have HP := Lib.hid hp
    clear hp
    by_cases h6 : s ≤ 6
    · have q6 : symB6 s xs = true := by simp [symB6, q0, h6]
      have HE := Lib.hid (ln_yes q6)
      rw [q6]
      clear q6
      generalize hln : xs.length = n at *
      obtain rfl : s = (n : Int) := by omega
      have HL := Lib.hid hln
      clear hln hsl
      have h6n : n ≤ 6 := by omega
      have h6b : decide ((6 : Int) < (n : Int)) = false := decide_eq_false (by omega)
      clear h6
      have hfp := fact_pos n
      have hf7 := fact_le n h6n
      have HPP := Lib.hid (pick_perm HP.out HL.out h6n)
      go_enter Try.func15, Try.ntmps15
      go_wp2_with fail
      have b0 := (below_alloc1 w (.cells #[.int .i64 n, .slice A n c] 27)).alloc (by simp) (.cells #[.int .i64 0, .slice none 0 0] 27)
      have x0 := (TBox.new w n (.slice A n c) 27).below (below_alloc1 _ (.cells #[.int .i64 0, .slice none 0 0] 27))
      have t0 := BoxF.new (w.alloc (.cells #[.int .i64 n, .slice A n c] 27)) 0 (.slice none 0 0) 27
      simp only [World.size_alloc] at t0
      generalize (w.alloc (.cells #[.int .i64 n, .slice A n c] 27)).alloc (.cells #[.int .i64 0, .slice none 0 0] 27) = w0 at *
      have HX0 := Lib.hid x0
      have HB0 := Lib.hid b0
      have HT0 := Lib.hid t0
      clear x0 b0 t0
      have y0_0 := HX0.out.1
      have y1_0 := HX0.out.2
      go_wp2_with fail
      refine (specTourOk n _ xs _ (HR.out.below HB0.out)).mono ?_
      rintro e w1 ⟨rfl, hb⟩
      have HX1 := Lib.hid (HX0.out.below hb)
      have HT1 := Lib.hid (HT0.out.below hb)
      have HB1 := Lib.hid (Below.then HB0.out hb)
      clear hb HX0 HT0 HB0 y0_0 y1_0
      have y0_1 := HX1.out.1
      have y1_1 := HX1.out.2
      rw [q0]
      go_wp2_with fail
      refine (l08Copy_any n (.slice A n c) xs w1 (HR.out.below HB1.out) HL.out (by omega) (by omega)).mono ?_
      rintro e w2 ⟨sl2, rfl, ho2, hb2⟩
      obtain ⟨Y, cy, rfl, -, -, -⟩ := ho2.form
      rw [HL.out] at ho2 ⊢
      have b23 := below_alloc1 w2 (.cells #[.int .i64 n, .slice Y n cy] 27)
      have HBX := Lib.hid (BoxF.new w2 n (.slice Y n cy) 27)
      have HOB := Lib.hid (ho2.below b23)
      have HX3 := Lib.hid ((HX1.out.below hb2).below b23)
      have HT3 := Lib.hid ((HT1.out.below hb2).below b23)
      have HB3 := Lib.hid (Below.then (Below.then HB1.out hb2) b23)
      have hlt2 := fun r hr => ho2.lt r hr
      have hrb := HT1.out.gt
      have hs12 := hb2.size
      have hs01 := HB1.out.size
      clear ho2 hb2 b23 y0_1 y1_1
      go_wp2
      have hI0 : LnW w xs w2.heap.size w.heap.size (w.heap.size + 1) n (.slice A n c) [] (w2.alloc (.cells #[.int .i64 n, .slice Y n cy] 27)) := ⟨Y, cy, HBX.out, HOB.out.mono hs01, fun r hr => ⟨fun e => (by have := (hlt2 r hr).2; omega), fun e => (by have := (hlt2 r hr).1; omega)⟩, HX3.out, HT3.out, HB3.out⟩
      have HI0 := Lib.hid hI0
      clear hI0 hlt2
      go_loopw [5] (fun i wr => ∃ k : Nat, k ≤ factN n ∧ i = .int .i64 k ∧ Hid (LnW w xs w2.heap.size w.heap.size (w.heap.size + 1) n (.slice A n c) ((namesL n).take k) wr)) (fun i _ => factN n - (intOf i).toNat)
      case atStart => exact ⟨0, by omega, rfl, HI0.out⟩
      case round =>
        obtain ⟨wo, rfl⟩ : ∃ x, x = wr := ⟨_, rfl⟩
        obtain ⟨k, hk, rfl, HI⟩ := hrel
        obtain ⟨Yb, cyb, hbx, hob, hnb, htx, hrx, hbw⟩ := HI.out
        have HBb := Lib.hid hbx
        have HOb := Lib.hid hob
        have HNb := Lib.hid hnb
        have HXb := Lib.hid htx
        have HRb := Lib.hid hrx
        have HBw := Lib.hid hbw
        have y0 := htx.1
        have y1 := htx.2
        clear hbx hob hnb htx hrx hbw HI
        by_cases hlt : k < factN n
        · have hmem := Lib.hid (perm_nI.2 (names_mem h6n hlt))
          have HT := Lib.hid (names_at hlt)
          go_wp2_with (go_at_call 38; refine (l11Count_any n h6n (by omega) _).mono ?_; rintro e w1 ⟨rfl, rfl⟩)
          have HKP : Hid (∀ W, Below wo.heap.size wo W → W.cell? ⟨w.heap.size, 0, none⟩ = some (.int .i64 n) ∧ W.cell? ⟨w.heap.size, 1, none⟩ = some (.slice A n c)) := fun W hb => ⟨(HXb.out.below hb).1, (HXb.out.below hb).2⟩
          have BB0 : Below wo.heap.size wo wo.drew := (Below.refl _ _).drew
          have BB0B : Below wo.heap.size wo (wo.drew.alloc (.cells #[.int .i64 0, .slice none 0 0] 27)) := BB0.alloc BB0.size _
          have hPM : Hid (PermP xs.length (nI (nameAt n k (turnN n)))) := by unfold Hid; rw [HL.out]; exact hmem.out
          clear y0 y1
          go_cut [6] (fun s6 wx => TrCut wo n (rnL xs (nI (nameAt n k (turnN n)))) s6 wx)
          case first =>
            go_region_held3 (fun W => W.cell? ⟨w.heap.size, 0, none⟩ = some (.int .i64 n) ∧ W.cell? ⟨w.heap.size, 1, none⟩ = some (.slice A n c))
              (first | exact HKP.out _ BB0 | exact HKP.out _ BB0B | exact HKP.out _ BB1 | exact HKP.out _ (BB1.alloc BB1.size _) | exact HKP.out _ BB2 | exact HKP.out _ (BB2.alloc BB2.size _) | exact HKP.out _ BBS)
              (first
                | (go_at_call 41; refine (l11Names_any n h6n (by omega) k (by omega) wo.drew).mono ?_; rintro e v1 ⟨sl1, rfl, oo1, hb⟩; obtain ⟨Z1, cz1, rfl, -, -, -⟩ := oo1.form; have BB1 := Below.then BB0 hb; (try have HX1' := HX0'.below hb); clear hb)
                | (go_at_call 41; refine (l11Names_any n h6n (by omega) k (by omega) (wo.drew.alloc (.cells #[.int .i64 0, .slice none 0 0] 27))).mono ?_; rintro e v1 ⟨sl1, rfl, oo1, hb⟩; obtain ⟨Z1, cz1, rfl, -, -, -⟩ := oo1.form; have BB1 := Below.then BB0B hb; have HX1' := (show BoxOT wo (wo.drew.alloc (.cells #[.int .i64 0, .slice none 0 0] 27)) wo.heap.size from BoxOT.new wo.drew BB0.size).below hb; clear hb)
                | (go_at_call 40; refine (l02Rename_any n (.slice A n c) xs (nI (nameAt n k (turnN n))) _ v1 (HR.out.below (Below.then HBw.out BB1)) HP.out oo1.rd hPM.out).mono ?_; rintro e v2 ⟨sl2, rfl, hoy, -, hb⟩; obtain ⟨Z2, cz2, rfl, -, -, -⟩ := hoy.form; have BB2 := Below.then BB1 hb; (try have HX2' := HX1'.below hb); have OY := hoy.mono BB1.size; (try have NB := own_ne (fun k hk => (hoy.lt k hk).1) HX1'.1.gt); (try have BBS := (BB2.setCell (p := ⟨_, 0, none⟩) HX2'.2 (.int .i64 n)).setCell (p := ⟨_, 1, none⟩) HX2'.2 (.slice Z2 (rnL xs (nI (nameAt n k (turnN n)))).length cz2)); (try have v0 := HX2'.1.1.1); (try have v1 := HX2'.1.1.2); (try have f0 := HX2'.1.2 0); (try have f1 := HX2'.1.2 1); clear hb hoy)
                | (go_at_call 40; refine (l02Rename_any n (.slice A n c) xs (nI (nameAt n k (turnN n))) _ (v1.alloc (.cells #[.int .i64 0, .slice none 0 0] 27)) (HR.out.below (Below.then HBw.out (BB1.alloc BB1.size _))) HP.out (Own.alloc oo1 _).rd hPM.out).mono ?_; rintro e v2 ⟨sl2, rfl, hoy, -, hb⟩; obtain ⟨Z2, cz2, rfl, -, -, -⟩ := hoy.form; have BB2 := Below.then (BB1.alloc BB1.size _) hb; have HX2' := (BoxOT.new (w0 := wo) v1 BB1.size).below hb; have OY := hoy.mono (BB1.alloc BB1.size (.cells #[.int .i64 0, .slice none 0 0] 27)).size; have NB := own_ne (fun k hk => (hoy.lt k hk).1) (BoxOT.new (w0 := wo) v1 BB1.size).1.gt; (try have BBS := (BB2.setCell (p := ⟨_, 0, none⟩) HX2'.2 (.int .i64 n)).setCell (p := ⟨_, 1, none⟩) HX2'.2 (.slice Z2 (rnL xs (nI (nameAt n k (turnN n)))).length cz2)); (try have v0 := HX2'.1.1.1); (try have v1 := HX2'.1.1.2); (try have f0 := HX2'.1.2 0); (try have f1 := HX2'.1.2 1); clear hb hoy))
            all_goals first
              | (go_wp2_with fail; go_meet; exact ⟨_, _, _, rfl, HX2'.1.set01 n _, (OY.kept (setCell_grown _ _ _) NB).kept (setCell_grown _ _ _) NB, NB, HX2'.2, BBS⟩)
              | (go_wp2_with fail; go_meet; exact ⟨_, _, _, rfl, BoxF.new v2 n _ _, Own.alloc OY _, box_new_of (fun k hk => (OY.lt k hk).2), BB2.size, BB2.alloc BB2.size _⟩)
          case rest =>
            obtain ⟨xb, Z, cz, rfl, hub, hou, hnu, hug, huw⟩ := hcut
            have hrl := rn_len rfl hPM.out
            rw [HL.out] at hrl
            rw [hrl] at hub hou hnu
            have HUB := Lib.hid hub
            have HOU := Lib.hid hou
            have HUW := Lib.hid huw
            have HBc := Lib.hid (HBb.out.below huw)
            have HOc := Lib.hid (HOb.out.below huw)
            have HXc := Lib.hid (HXb.out.below huw)
            have HRc := Lib.hid (HRb.out.below huw)
            have HWc := Lib.hid (Below.then HBw.out huw)
            have hbb := HBb.out.gt
            have hrb2 := HRb.out.gt
            have htb2 := World.block_lt_of_cell? _ _ HXb.out.1
            have hwo := HBw.out.size
            have HTR := Lib.hid (rn_tour HP.out hPM.out)
            have HTB := Lib.hid (pick_tour HP.out ((namesL n).take k) (by rw [HL.out]; exact fun ns h => (names_perm h6n).mem_iff.1 (List.mem_of_mem_take h)))
            have HPS := Lib.hid (pick_snoc xs ((namesL n).take k) (nameAt n k (turnN n)) xs)
            rw [← HT.out] at HPS
            have u0 := hub.1.1
            have u1 := hub.1.2
            have u2 := HBc.out.1.1
            have u3 := HBc.out.1.2
            clear hub hou hnu huw HKP BB0 BB0B hrl HBb HOb HXb HRb HBw
            go_wp2_with fail
            refine (l11Less_any n (.slice Z n cz) (.slice Yb n cyb) _ _ wc HOU.out.rd HOc.out.rd HTR.out HTB.out).mono ?_
            rintro e w9 ⟨rfl, hb9⟩
            have HU9 := Lib.hid (HUB.out.below hb9)
            have HO9 := Lib.hid (HOU.out.below hb9)
            have HB9 := Lib.hid (HBc.out.below hb9)
            have HOB9 := Lib.hid (HOc.out.below hb9)
            have HX9 := Lib.hid (HXc.out.below hb9)
            have HR9 := Lib.hid (HRc.out.below hb9)
            have HW9 := Lib.hid (Below.then HWc.out hb9)
            have hs9 := hb9.size
            have hsc := HUW.out.size
            clear u0 u1 u2 u3 hb9 HUB HOU HBc HOc HXc HRc HWc
            by_cases hlc : codeN (rnL xs (nI (nameAt n k (turnN n)))) < codeN (pickL xs ((namesL n).take k) xs)
            · have hd : decide (codeN (rnL xs (nI (nameAt n k (turnN n)))) < codeN (pickL xs ((namesL n).take k) xs)) = true := decide_eq_true hlc
              rw [if_pos hlc] at HPS
              rw [hd]
              have x0 := HU9.out.1.1
              have x1 := HU9.out.1.2
              have v0 := HB9.out.1.1
              have v1 := HB9.out.1.2
              have f0 := HB9.out.2 0
              have f1 := HB9.out.2 1
              clear hlc hd
              go_wp2
              go_roundw
              case rel =>
                have g1 := setCell_grown w9 ⟨w2.heap.size, 0, none⟩ (.int .i64 n)
                have g2 := setCell_grown (w9.setCell ⟨w2.heap.size, 0, none⟩ (.int .i64 n)) ⟨w2.heap.size, 1, none⟩ (.slice Z n cz)
                have hblk : ∀ r, (Value.slice Z n cz).ownBlock = some r → wo.heap.size ≤ r := fun r hr => (HO9.out.lt r hr).1
                have hne : (Value.slice Z n cz).ownBlock = none ∨ (Value.slice Z n cz).ownBlock ≠ some w2.heap.size := own_ne (fun k hk => hblk k hk) hbb
                refine ⟨k + 1, by omega, by go_num, Z, cz, HB9.out.set01 n _, ?_, fun r hr => ⟨fun e => (by have := hblk r hr; omega), fun e => (by have := hblk r hr; omega)⟩, (HX9.out.kept g1 (fun e => by injection e with e; have e : w.heap.size = w2.heap.size := e; omega)).kept g2 (fun e => by injection e with e; have e : w.heap.size = w2.heap.size := e; omega), (HR9.out.kept g1 (fun e => by injection e with e; have e : w.heap.size + 1 = w2.heap.size := e; omega)).kept g2 (fun e => by injection e with e; have e : w.heap.size + 1 = w2.heap.size := e; omega), (HW9.out.setCell (p := ⟨w2.heap.size, 0, none⟩) (by show w.heap.size ≤ w2.heap.size; omega) _).setCell (p := ⟨w2.heap.size, 1, none⟩) (by show w.heap.size ≤ w2.heap.size; omega) _⟩
                rw [HPS.out]
                exact ((HO9.out.mono hwo).kept g1 hne).kept g2 hne
              case measure => simp [intOf]; omega
            · have hd : decide (codeN (rnL xs (nI (nameAt n k (turnN n)))) < codeN (pickL xs ((namesL n).take k) xs)) = false := decide_eq_false hlc
              rw [if_neg hlc] at HPS
              rw [hd]
              clear hlc hd
              go_wp2
              go_roundw
              case rel => exact ⟨k + 1, by omega, by go_num, Yb, cyb, HB9.out, by rw [HPS.out]; exact HOB9.out, HNb.out, HX9.out, HR9.out, HW9.out⟩
              case measure => simp [intOf]; omega
        · obtain rfl : k = factN n := by omega
          have HF : Hid ((namesL n).take (factN n) = namesL n) := List.take_of_length_le (by rw [names_len]; exact Nat.le_refl _)
          rw [HF.out, HPP.out] at HOb
          have x0 := HBb.out.1.1
          have x1 := HBb.out.1.2
          have v0 := HRb.out.1.1
          have v1 := HRb.out.1.2
          have f0 := HRb.out.2 0
          have f1 := HRb.out.2 1
          have HBx := Lib.hid ((HBw.out.setCell (p := ⟨w.heap.size + 1, 0, none⟩) (show w.heap.size ≤ w.heap.size + 1 by omega) (.int .i64 n)).setCell (p := ⟨w.heap.size + 1, 1, none⟩) (show w.heap.size ≤ w.heap.size + 1 by omega) (.slice Yb n cyb))
          have HOx := Lib.hid ((HOb.out.kept (setCell_grown _ ⟨w.heap.size + 1, 0, none⟩ (.int .i64 n)) (nb_of (fun r hr => (HNb.out r hr).2))).kept (setCell_grown _ ⟨w.heap.size + 1, 1, none⟩ (.slice Yb n cyb)) (nb_of (fun r hr => (HNb.out r hr).2)))
          have R0 : Hid (((wo.setCell ⟨w.heap.size + 1, 0, none⟩ (.int .i64 n)).setCell ⟨w.heap.size + 1, 1, none⟩ (.slice Yb n cyb)).cell? ⟨w.heap.size + 1, 0, none⟩ = some (.int .i64 n)) := (World.cell?_setCell_other _ _ _ _ (by simp)).trans (World.cell?_setCell_same _ _ _ v0)
          have R1 : Hid (((wo.setCell ⟨w.heap.size + 1, 0, none⟩ (.int .i64 n)).setCell ⟨w.heap.size + 1, 1, none⟩ (.slice Yb n cyb)).cell? ⟨w.heap.size + 1, 1, none⟩ = some (.slice Yb n cyb)) := World.cell?_setCell_same _ _ _ ((World.cell?_setCell_other _ _ _ _ (by simp)).trans v1)
          go_wp2_with (go_at_call 38; refine (l11Count_any n h6n (by omega) _).mono ?_; rintro e w1 ⟨rfl, rfl⟩)
          have r0 := R0.out
          have r1 := R1.out
          refine bodyPost_ret (v := .tuple #[.agg #[.int .i64 n, .slice Yb n cyb], .bool true]) (by simp only [results, Try.results15]; simp [go_sem, r0, r1]) rfl ⟨.slice Yb n cyb, by rw [HE.out.1], ?_, HBx.out⟩
          rw [HE.out.2]
          exact HOx.out
    · have q6 : symB6 s xs = false := by simp [symB6, h6]
      have hE := ln_no q6
      rw [hE.1, hE.2, q6]
      clear hE q6 hsl
      have h7 : 7 ≤ s := by omega
      have h7b : decide (6 < s) = true := decide_eq_true (by omega)
      go_enter Try.func15, Try.ntmps15
      go_wp2_with fail
      have b0 := (below_alloc1 w (.cells #[.int .i64 s, .slice A xs.length c] 27)).alloc (by simp) (.cells #[.int .i64 0, .slice none 0 0] 27)
      have x0 := (TBox.new w s (.slice A xs.length c) 27).below (below_alloc1 _ (.cells #[.int .i64 0, .slice none 0 0] 27))
      have t0 := BoxF.new (w.alloc (.cells #[.int .i64 s, .slice A xs.length c] 27)) 0 (.slice none 0 0) 27
      simp only [World.size_alloc] at t0
      generalize (w.alloc (.cells #[.int .i64 s, .slice A xs.length c] 27)).alloc (.cells #[.int .i64 0, .slice none 0 0] 27) = w0 at *
      have HX0 := Lib.hid x0
      have HB0 := Lib.hid b0
      have HT0 := Lib.hid t0
      clear x0 b0 t0
      have y0_0 := HX0.out.1
      have y1_0 := HX0.out.2
      go_wp2_with fail
      refine (specTourOk s _ xs _ (HR.out.below HB0.out)).mono ?_
      rintro e w1 ⟨rfl, hb⟩
      have HX1 := Lib.hid (HX0.out.below hb)
      have HT1 := Lib.hid (HT0.out.below hb)
      have HB1 := Lib.hid (Below.then HB0.out hb)
      clear hb HX0 HT0 HB0 y0_0 y1_0
      have y0_1 := HX1.out.1
      have y1_1 := HX1.out.2
      rw [q0]
      have v0 := HT1.out.1.1
      have v1 := HT1.out.1.2
      have f0 := HT1.out.2 0
      have f1 := HT1.out.2 1
      have HBx := Lib.hid ((HB1.out.setCell (p := ⟨w.heap.size + 1, 0, none⟩) (by simp) (.int .i64 0)).setCell (p := ⟨w.heap.size + 1, 1, none⟩) (by simp) (.slice none 0 0))
      have R0 : Hid (((w1.setCell ⟨w.heap.size + 1, 0, none⟩ (.int .i64 0)).setCell ⟨w.heap.size + 1, 1, none⟩ (.slice none 0 0)).cell? ⟨w.heap.size + 1, 0, none⟩ = some (.int .i64 0)) := (World.cell?_setCell_other _ _ _ _ (by simp)).trans (World.cell?_setCell_same _ _ _ v0)
      have R1 : Hid (((w1.setCell ⟨w.heap.size + 1, 0, none⟩ (.int .i64 0)).setCell ⟨w.heap.size + 1, 1, none⟩ (.slice none 0 0)).cell? ⟨w.heap.size + 1, 1, none⟩ = some (.slice none 0 0)) := World.cell?_setCell_same _ _ _ ((World.cell?_setCell_other _ _ _ _ (by simp)).trans v1)
      go_wp2
      have r0 := R0.out
      have r1 := R1.out
      refine bodyPost_ret (v := .tuple #[.agg #[.int .i64 0, .slice none 0 0], .bool false]) (by simp only [results, Try.results15]; simp [go_sem, r0, r1]) rfl ⟨_, rfl, Own.nil_ _ _, HBx.out⟩
end Go.Proofs.Ytceeplhkokajhab
