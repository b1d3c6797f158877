/- FnExactKingStep: the functions. -/
import Derived.Test.YtoblhnfnjagajabKing
namespace Go.Proofs.Ytoblhnfnjagajab
open Go.RowKit Go.Sort

/-- who of two is gone to from a -/
def stepF (xs : List Int) (a best b : Nat) : Nat := if best = a ∨ popN 8 (winsN xs best) < popN 8 (winsN xs b) then b else best
def loseN (xs : List Int) (a n : Nat) : List Nat := (List.range n).filter fun b => bitI (xs.getD b 0) a
def kstK (xs : List Int) (a : Nat) (l : List Nat) : Nat := l.foldl (stepF xs a) a
def kstepN (xs : List Int) (a : Nat) : Nat := kstK xs a (loseN xs a xs.length)
noncomputable def kstepI (s : Int) (xs : List Int) (a : Int) : Int := if (tourB s xs && inB a 0 (s - 1)) = true then (kstepN xs a.toNat : Int) else -1
theorem kstK_snoc (xs : List Int) (a : Nat) (l : List Nat) (b : Nat) : kstK xs a (l ++ [b]) = stepF xs a (kstK xs a l) b := by simp [kstK]
theorem loseN_succ (xs : List Int) (a k : Nat) : loseN xs a (k + 1) = loseN xs a k ++ if bitI (xs.getD k 0) a then [k] else [] := by
  unfold loseN
  rw [List.range_succ, List.filter_append]
  congr 1
  rcases h : bitI (xs.getD k 0) a with _ | _ <;> simp [List.filter_cons, -List.getD_eq_getElem?_getD, h]
theorem stepF_mem (xs : List Int) (a best b : Nat) : stepF xs a best b = b ∨ stepF xs a best b = best := by unfold stepF; split <;> simp
theorem kstK_mem {xs : List Int} {a n : Nat} (ha : a < n) {l : List Nat} (hl : ∀ b ∈ l, b < n) : kstK xs a l < n := by
  have : ∀ (l : List Nat) (m : Nat), m < n → (∀ b ∈ l, b < n) → l.foldl (stepF xs a) m < n := by
    intro l
    induction l with
    | nil => intro m hm _; exact hm
    | cons b l ih =>
      intro m hm hl
      rw [List.foldl_cons]
      refine ih _ ?_ fun c hc => hl c (by simp [hc])
      rcases stepF_mem xs a m b with e | e
      · rw [e]; exact hl b (by simp)
      · rw [e]; exact hm
  exact this l a ha hl
theorem bit_nat {s : Int} {xs : List Int} (hp : tourP s xs) {a b : Nat} (ha : a < xs.length) : bitI (xs.getD a 0) b = (winsN xs a).testBit b := by
  rw [testBit_iff, ← (tour_wins hp ha).1]; rfl
/-- the set of those who beat a player -/
def lossN (xs : List Int) (a : Nat) : Nat := less (less (2 ^ xs.length - 1) (winsN xs a)) (2 ^ a)
theorem loss_list {s : Int} {xs : List Int} (hp : tourP s xs) {a : Nat} (ha : a < xs.length) : memN (lossN xs a) xs.length = loseN xs a xs.length := by
  unfold memN loseN
  refine List.filter_congr fun b hb => ?_
  have hb := List.mem_range.1 hb
  unfold lossN
  rw [testBit_less, testBit_less, testBit_full, Nat.testBit_two_pow, ← bit_nat hp ha]
  have hT := hp.2.2.2
  simp only [hb, decide_true, Bool.true_and]
  rcases Nat.lt_trichotomy a b with h | h | h
  · have h1 := (hT b hb).2 a h
    have e : decide (a = b) = false := by simp; omega
    rw [e]
    rcases h2 : bitI (xs.getD a 0) b with _ | _ <;> rcases h3 : bitI (xs.getD b 0) a with _ | _ <;> rw [h2, h3] at h1 <;> first | rfl | exact absurd rfl h1
  · subst h
    rw [(hT a ha).1]; simp
  · have h1 := (hT a ha).2 b h
    have e : decide (a = b) = false := by simp; omega
    rw [e]
    rcases h2 : bitI (xs.getD a 0) b with _ | _ <;> rcases h3 : bitI (xs.getD b 0) a with _ | _ <;> rw [h2, h3] at h1 <;> first | rfl | exact absurd rfl h1
theorem less_full_lt' (n S : Nat) : less (2 ^ n - 1) S < 2 ^ n := less_lt (by have := Nat.two_pow_pos n; omega)
theorem full_less {n W : Nat} (hW : W < 2 ^ n) : 2 ^ n - 1 - W = less (2 ^ n - 1) W := by
  have e : 2 ^ n - 1 - W = 2 ^ n - (W + 1) := by omega
  rw [e]
  apply Nat.eq_of_testBit_eq
  intro i
  rw [Nat.testBit_two_pow_sub_succ hW, testBit_less, testBit_full]
theorem loss_val {n W a : Nat} (hn : n ≤ 8) (hW : W < 2 ^ n) (ha : a < n) (hself : W.testBit a = false) :
    wrap64 (wrap64 (wrap64 (wrap64 (2 ^ n) - 1) - (W : Int)) - wrap64 (2 ^ a)) = ((less (less (2 ^ n - 1) W) (2 ^ a) : Nat) : Int) := by
  have hp8 := pow_le hn
  have hbit : (less (2 ^ n - 1) W).testBit a = true := by rw [testBit_less, testBit_full, hself]; simp [ha]
  have hlt : less (2 ^ n - 1) W < 256 := Nat.lt_of_lt_of_le (less_full_lt' n W) hp8
  have hge := Nat.ge_two_pow_of_testBit hbit
  have h3 := sub_less (Nat.lt_trans hlt (by decide)) (by omega) hbit
  have hpn : 1 ≤ 2 ^ n := Nat.one_le_two_pow
  rw [full_nat n hn, shl_nat a (by omega), ← Int.natCast_sub (by omega : W ≤ 2 ^ n - 1), full_less hW]
  rw [wrap64_nat _ (Nat.lt_trans hlt (by decide)), ← Int.natCast_sub hge, h3]
  exact wrap64_nat _ (Nat.lt_trans (less_lt (n := 8) hlt) (by decide))
set_option maxHeartbeats 1000000 in
theorem losses_any (s : Int) (sl : Value) (xs : List Int) (a : Nat) (w : World) (h : Rd w sl xs) (hp : tourP s xs) (ha : a < xs.length) :
    Calls Try.prog 77 #[.agg #[.int .i64 s, sl], .int .i64 a] w fun e w' => e = .returned (.int .i64 (lossN xs a : Nat)) ∧ Below w.heap.size w w' := by
  obtain ⟨g, off, c, rfl, hm, hg, hx⟩ := tour_cells h hp
  unfold maxLen at hm
  have hs := hp.1
  have hsl := hp.2.1
  have hw := (tour_wins hp ha).2.1
  have hself : (winsN xs a).testBit a = false := by rw [← bit_nat hp ha]; exact (hp.2.2.2 a ha).1
  have hxa := hx a ha
  have hL : Hid (lossN xs a = less (less (2 ^ xs.length - 1) (winsN xs a)) (2 ^ a)) := rfl
  clear hp h hx
  generalize hn : xs.length = n at *
  obtain rfl : s = n := by omega
  rw [show ((n : Int)).toNat = n from rfl] at hw
  generalize winsN xs a = W at *
  go_enter Try.func77, Try.ntmps77
  go_wp2_with fail
  have b0 := below_alloc1 w (.cells #[.int .i64 n, .slice (some ⟨g, off, none⟩) n c] 27)
  have x0 := TBox.new w n (.slice (some ⟨g, off, none⟩) n c) 27
  generalize w.alloc (.cells #[.int .i64 n, .slice (some ⟨g, off, none⟩) n c] 27) = w0 at *
  have HX0 := Lib.hid x0
  have HB0 := Lib.hid b0
  clear x0 b0
  have y0_0 := HX0.out.1
  have y1_0 := HX0.out.2
  have c0 := cell_regrown ((HB0.out.cell (by exact hg)).trans hxa)
  have y0_q := cell_regrown y0_0
  have y1_q := cell_regrown y1_0
  clear y0_0 y1_0
  refine wp_region_below (by kernel_rfl) (by kernel_rfl) ?_
  repeat (go_big_quiet_step (first | (with_reducible fail)))
  refine wpQuiet_nil ?_
  intro wq hbq0
  have hbq := Lib.hid hbq0
  clear hbq0
  clear y0_q y1_q
  go_wp2
  go_ret
  refine ⟨ret_int ?_, Below.then HB0.out hbq.out⟩
  rw [hL.out]
  exact loss_val (by omega) hw ha hself
set_option maxHeartbeats 2000000 in
theorem kingStep_any (s : Int) (sl : Value) (xs : List Int) (a : Nat) (w : World) (h : Rd w sl xs) (hp : tourP s xs) (ha : a < xs.length) :
    Calls Try.prog 71 #[.agg #[.int .i64 s, sl], .int .i64 a] w fun e w' => e = .returned (.int .i64 (kstepN xs a : Nat)) ∧ Below w.heap.size w w' := by
  have HR := Lib.hid h
  obtain ⟨A, c, rfl, -, -, -⟩ := h
  have hs := hp.1
  have hsl := hp.2.1
  have hK : Hid (kstepN xs a = kstK xs a (memN (lossN xs a) xs.length)) := by unfold Hid kstepN; rw [loss_list hp ha]
  have hLlt : lossN xs a < 2 ^ xs.length := less_lt (less_full_lt' _ _)
  have HM := Lib.hid (fun b (hb : b ∈ memN (lossN xs a) xs.length) => show b < xs.length ∧ b ≠ a from by
    have h1 := mem_memN.1 hb
    refine ⟨h1.1, fun e => ?_⟩
    subst e
    have := h1.2
    unfold lossN at this
    rw [testBit_less, Nat.testBit_two_pow] at this
    simp at this)
  go_enter Try.func71, Try.ntmps71
  go_wp2_with fail
  have b0 := below_alloc1 w (.cells #[.int .i64 s, .slice A xs.length c] 27)
  have x0 := TBox.new w s (.slice A xs.length c) 27
  generalize w.alloc (.cells #[.int .i64 s, .slice A xs.length c] 27) = w0 at *
  have HX0 := Lib.hid x0
  have HB0 := Lib.hid b0
  clear x0 b0
  have y0_0 := HX0.out.1
  have y1_0 := HX0.out.2
  go_wp2_with fail
  refine (losses_any s _ xs a _ (HR.out.below HB0.out) hp ha).mono ?_
  rintro e w1 ⟨rfl, hb⟩
  have HX1 := Lib.hid (HX0.out.below hb)
  have HB1 := Lib.hid (Below.then HB0.out hb)
  clear hb HX0 HB0 y0_0 y1_0
  have y0_1 := HX1.out.1
  have y1_1 := HX1.out.2
  go_wp2_with fail
  refine (membersOf_any (lossN xs a) xs.length _ hLlt (by omega)).mono ?_
  rintro e w2 ⟨v, rfl, ho, hb2⟩
  obtain ⟨B, d, rfl, hd1, hd2, hl⟩ := memL_cells ho
  unfold maxLen at hd1
  have HL := Lib.hid hl
  have HB2 := Lib.hid (Below.then HB1.out hb2)
  have HX2 := Lib.hid (HX1.out.below hb2)
  have hm8 := memN_len (lossN xs a) xs.length
  clear hb2 ho hl HB1 HX1 y0_1 y1_1 hLlt
  generalize memN (lossN xs a) xs.length = L at *
  generalize hLn : L.length = m at *
  have HLN := Lib.hid hLn
  clear hLn
  go_wp2
  go_loopw [5, 13] (fun t i wr => ∃ k M : Nat, k ≤ m ∧ i = .int .i64 k ∧ Hid (M = kstK xs a (L.take k)) ∧ M < xs.length ∧ t = .int .i64 (if M = a then -1 else (M : Int)) ∧ Below w2.heap.size w2 wr ∧ TBox wr w.heap.size s (.slice A xs.length c)) (fun _ i _ => m - (intOf i).toNat)
  case atStart => exact ⟨0, a, by omega, rfl, rfl, ha, by simp, Below.refl _ _, HX2.out⟩
  case round =>
    obtain ⟨k, M, hk, rfl, HM1, hMn, rfl, hb, hxx⟩ := hrel
    have HB := Lib.hid hb
    have HX := Lib.hid hxx
    have y0_0 := hxx.1
    have y1_0 := hxx.2
    clear hb hxx
    by_cases hlt : k < m
    · have hkl : k < L.length := by rw [HLN.out]; exact hlt
      obtain ⟨g', off', rfl, hg', hz⟩ := HL.out (by omega)
      have hzk := (HB.out.cell (by exact hg')).trans (hz k hlt)
      have hbL : L.getD k 0 ∈ L := by rw [getD_nat hkl]; exact List.getElem_mem hkl
      have hbm := HM.out _ hbL
      have HST : Hid (kstK xs a (L.take (k + 1)) = stepF xs a M (L.getD k 0)) := by unfold Hid; rw [take_snocN hkl, kstK_snoc, ← HM1.out, getD_nat hkl]
      have k1 := quiet_below (w := wr) (fun W hW => score_any s (.slice A xs.length c) xs (L.getD k 0) W (((HR.out.below HB2.out).below HB.out).below hW) hp hbm.1)
      have k2 := quiet_below (w := wr) (fun W hW => score_any s (.slice A xs.length c) xs M W (((HR.out.below HB2.out).below HB.out).below hW) hp hMn)
      generalize L.getD k 0 = b at *
      have hF : stepF xs a M b = if M = a ∨ popN 8 (winsN xs M) < popN 8 (winsN xs b) then b else M := rfl
      have HF := Lib.hid hF
      have hp1 := popN_le 8 (winsN xs b)
      have hp2 := popN_le 8 (winsN xs M)
      have hba := hbm.2
      clear hz hF
      by_cases hMa : M = a
      · subst hMa
        have hFF : Hid (stepF xs M M b = b) := by unfold Hid; rw [HF.out]; simp
        rw [if_pos rfl]
        clear k1 k2 HF
        go_wp2_with fail
        have y0_q := cell_regrown y0_0
        have y1_q := cell_regrown y1_0
        clear y0_0 y1_0
        refine wp_region_below (by kernel_rfl) (by kernel_rfl) ?_
        repeat (go_big_quiet_step (first | (with_reducible fail)))
        refine wpQuiet_nil ?_
        intro wq hbq0
        have hbq := Lib.hid hbq0
        clear hbq0
        clear y0_q y1_q
        go_wp2
        go_roundw
        case rel => exact ⟨k + 1, b, by omega, by go_num, by unfold Hid; rw [HST.out, hFF.out], hbm.1, by rw [if_neg hba], Below.then HB.out hbq.out, HX.out.below hbq.out⟩
        case measure => simp [intOf]; omega
      · rw [if_neg hMa]
        have hneg : decide ((M : Int) < 0) = false := by simp
        generalize popN 8 (winsN xs b) = pb at *
        generalize popN 8 (winsN xs M) = pm at *
        rcases hq : decide ((pm : Int) < (pb : Int)) with _ | _
        · have hFF : Hid (stepF xs a M b = M) := by
            have := of_decide_eq_false hq
            unfold Hid; rw [HF.out, if_neg (by omega)]
          have hq3 : (pb : Int) ≤ (pm : Int) := by have := of_decide_eq_false hq; omega
          clear HF
          go_wp2_with fail
          have y0_q := cell_regrown y0_0
          have y1_q := cell_regrown y1_0
          clear y0_0 y1_0
          refine wp_region_below (by kernel_rfl) (by kernel_rfl) ?_
          repeat (go_big_quiet_step (first | (with_reducible exact k1 _ _) | (with_reducible exact k2 _ _)))
          refine wpQuiet_nil ?_
          intro wq hbq0
          have hbq := Lib.hid hbq0
          clear hbq0
          clear y0_q y1_q
          go_wp2
          go_roundw
          case rel => exact ⟨k + 1, M, by omega, by go_num, by unfold Hid; rw [HST.out, hFF.out], hMn, by rw [if_neg hMa], Below.then HB.out hbq.out, HX.out.below hbq.out⟩
          case measure => simp [intOf]; omega
        · have hFF : Hid (stepF xs a M b = b) := by
            have := of_decide_eq_true hq
            unfold Hid; rw [HF.out, if_pos (by omega)]
          have hq3 : (pm : Int) < (pb : Int) := of_decide_eq_true hq
          clear HF
          go_wp2_with fail
          have y0_q := cell_regrown y0_0
          have y1_q := cell_regrown y1_0
          clear y0_0 y1_0
          refine wp_region_below (by kernel_rfl) (by kernel_rfl) ?_
          repeat (go_big_quiet_step (first | (with_reducible exact k1 _ _) | (with_reducible exact k2 _ _)))
          refine wpQuiet_nil ?_
          intro wq hbq0
          have hbq := Lib.hid hbq0
          clear hbq0
          clear y0_q y1_q
          go_wp2
          go_roundw
          case rel => exact ⟨k + 1, b, by omega, by go_num, by unfold Hid; rw [HST.out, hFF.out], hbm.1, by rw [if_neg hba], Below.then HB.out hbq.out, HX.out.below hbq.out⟩
          case measure => simp [intOf]; omega
    · obtain rfl : k = m := by omega
      have hfin := HM1.out
      rw [show L.take k = L from List.take_of_length_le (by rw [HLN.out]; exact Nat.le_refl _), ← hK.out] at hfin
      have HFIN := Lib.hid hfin
      clear hfin
      by_cases hMa : M = a
      · rw [if_pos hMa]
        have HMA := Lib.hid hMa
        clear hMa
        go_wp2
        go_ret
        exact ⟨ret_int (by rw [← HFIN.out, HMA.out]), Below.then HB2.out HB.out⟩
      · rw [if_neg hMa]
        go_wp2
        go_ret
        exact ⟨ret_int (by rw [← HFIN.out]), Below.then HB2.out HB.out⟩
set_option maxHeartbeats 2000000 in
theorem l07Step_any (s : Int) (sl : Value) (xs : List Int) (a : Nat) (w : World) (h : Rd w sl xs) (hp : tourP s xs) (ha : a < xs.length) :
    Calls Try.prog 69 #[.agg #[.int .i64 s, sl], .int .i64 a] w fun e w' => e = .returned (.int .i64 (kstepN xs a : Nat)) ∧ Below w.heap.size w w' := by
  have HR := Lib.hid h
  obtain ⟨g, off, c, rfl, hm, hg, hx⟩ := tour_cells h hp
  unfold maxLen at hm
  have hs := hp.1
  have hsl := hp.2.1
  have HCELL := Lib.hid hx
  have HW := Lib.hid (fun j hj => (tour_wins hp (a := j) hj).2.2)
  have hK : Hid (kstepN xs a = kstK xs a (loseN xs a xs.length)) := rfl
  have HSELF := Lib.hid ((hp.2.2.2 a ha).1)
  clear h hx
  generalize hn : xs.length = n at *
  have HN := Lib.hid hn
  clear hn
  go_enter Try.func69, Try.ntmps69
  go_wp2_with fail
  have b0 := below_alloc1 w (.cells #[.int .i64 s, .slice (some ⟨g, off, none⟩) n c] 27)
  have x0 := TBox.new w s (.slice (some ⟨g, off, none⟩) n c) 27
  generalize w.alloc (.cells #[.int .i64 s, .slice (some ⟨g, off, none⟩) n c] 27) = w0 at *
  have HX0 := Lib.hid x0
  have HB0 := Lib.hid b0
  clear x0 b0
  have y0_0 := HX0.out.1
  have y1_0 := HX0.out.2
  go_wp2
  go_loopw [5, 11] (fun t i wr => ∃ k M : Nat, k ≤ n ∧ i = .int .i64 k ∧ Hid (M = kstK xs a (loseN xs a k)) ∧ M < n ∧ t = .int .i64 M ∧ Below w.heap.size w wr ∧ TBox wr w.heap.size s (.slice (some ⟨g, off, none⟩) n c)) (fun _ i _ => n - (intOf i).toNat)
  case atStart => exact ⟨0, a, by omega, rfl, by simp [Hid, kstK, loseN], ha, rfl, HB0.out, HX0.out⟩
  case round =>
    obtain ⟨k, M, hk, rfl, HM1, hMn, rfl, hb, hxx⟩ := hrel
    have HB := Lib.hid hb
    have HX := Lib.hid hxx
    have y0_1 := hxx.1
    have y1_1 := hxx.2
    clear hb hxx HB0 HX0 y0_0 y1_0
    have y0_0 := y0_1
    have y1_0 := y1_1
    clear y0_1 y1_1
    by_cases hlt : k < n
    · have HST := Lib.hid (loseN_succ xs a k)
      have HST2 : Hid (kstK xs a (loseN xs a k ++ [k]) = stepF xs a M k) := by unfold Hid; rw [kstK_snoc, ← HM1.out]
      have hF : stepF xs a M k = if M = a ∨ popN 8 (winsN xs M) < popN 8 (winsN xs k) then k else M := rfl
      have HF := Lib.hid hF
      have kb := quiet_below (w := wr) (fun W hW => l02Beats_any s (.slice (some ⟨g, off, none⟩) n c) xs k a W ((HR.out.below HB.out).below hW) (by omega) (by rw [HN.out]; omega) (by omega) (by omega))
      have k1 := quiet_below (w := wr) (fun W _ => of_same (l02Bits_any (winsN xs k) W (HW.out k hlt)))
      have k2 := quiet_below (w := wr) (fun W _ => of_same (l02Bits_any (winsN xs M) W (HW.out M hMn)))
      rw [show ((k : Int)).toNat = k from rfl, show ((a : Int)).toNat = a from rfl] at kb
      have ck := cell_regrown ((HB.out.cell (by exact hg)).trans (HCELL.out k hlt))
      have cm := cell_regrown ((HB.out.cell (by exact hg)).trans (HCELL.out M hMn))
      have hp1 := popN_le 8 (winsN xs k)
      have hp2 := popN_le 8 (winsN xs M)
      clear hF
      rcases hB : bitI (xs.getD k 0) a with _ | _
      · rw [hB] at kb
        clear k1 k2 ck cm
        go_wp2_with fail
        have y0_q := cell_regrown y0_0
        have y1_q := cell_regrown y1_0
        clear y0_0 y1_0
        refine wp_region_below (by kernel_rfl) (by kernel_rfl) ?_
        repeat (go_big_quiet_step (first | (with_reducible exact kb _ _)))
        refine wpQuiet_nil ?_
        intro wq hbq0
        have hbq := Lib.hid hbq0
        clear hbq0
        clear y0_q y1_q
        go_wp2
        go_roundw
        case rel => exact ⟨k + 1, M, by omega, by go_num, by unfold Hid; rw [HST.out, hB]; simpa using HM1.out, hMn, rfl, Below.then HB.out hbq.out, HX.out.below hbq.out⟩
        case measure => simp [intOf]; omega
      · rw [hB] at kb
        by_cases hMa : M = a
        · subst hMa
          have hFF : Hid (stepF xs M M k = k) := by unfold Hid; rw [HF.out]; simp
          have hq : ((M : Int) == (M : Int)) = true := by simp
          clear k1 k2 HF ck cm
          go_wp2_with fail
          have y0_q := cell_regrown y0_0
          have y1_q := cell_regrown y1_0
          clear y0_0 y1_0
          refine wp_region_below (by kernel_rfl) (by kernel_rfl) ?_
          repeat (go_big_quiet_step (first | (with_reducible exact kb _ _)))
          refine wpQuiet_nil ?_
          intro wq hbq0
          have hbq := Lib.hid hbq0
          clear hbq0
          clear y0_q y1_q
          go_wp2
          go_roundw
          case rel => exact ⟨k + 1, k, by omega, by go_num, by unfold Hid; rw [HST.out, hB, if_pos rfl, HST2.out, hFF.out], hlt, rfl, Below.then HB.out hbq.out, HX.out.below hbq.out⟩
          case measure => simp [intOf]; omega
        · have hq : ((M : Int) == (a : Int)) = false := by simp; omega
          generalize popN 8 (winsN xs k) = pb at *
          generalize popN 8 (winsN xs M) = pm at *
          rcases hq2 : decide ((pm : Int) < (pb : Int)) with _ | _
          · have hFF : Hid (stepF xs a M k = M) := by
              have := of_decide_eq_false hq2
              unfold Hid; rw [HF.out, if_neg (by omega)]
            have hq3 : (pb : Int) ≤ (pm : Int) := by have := of_decide_eq_false hq2; omega
            clear HF
            go_wp2_with fail
            have y0_q := cell_regrown y0_0
            have y1_q := cell_regrown y1_0
            clear y0_0 y1_0
            refine wp_region_below (by kernel_rfl) (by kernel_rfl) ?_
            repeat (go_big_quiet_step (first | (with_reducible exact kb _ _) | (with_reducible exact k1 _ _) | (with_reducible exact k2 _ _)))
            refine wpQuiet_nil ?_
            intro wq hbq0
            have hbq := Lib.hid hbq0
            clear hbq0
            clear y0_q y1_q
            go_wp2
            go_roundw
            case rel => exact ⟨k + 1, M, by omega, by go_num, by unfold Hid; rw [HST.out, hB, if_pos rfl, HST2.out, hFF.out], hMn, rfl, Below.then HB.out hbq.out, HX.out.below hbq.out⟩
            case measure => simp [intOf]; omega
          · have hFF : Hid (stepF xs a M k = k) := by
              have := of_decide_eq_true hq2
              unfold Hid; rw [HF.out, if_pos (by omega)]
            have hq3 : (pm : Int) < (pb : Int) := of_decide_eq_true hq2
            clear HF
            go_wp2_with fail
            have y0_q := cell_regrown y0_0
            have y1_q := cell_regrown y1_0
            clear y0_0 y1_0
            refine wp_region_below (by kernel_rfl) (by kernel_rfl) ?_
            repeat (go_big_quiet_step (first | (with_reducible exact kb _ _) | (with_reducible exact k1 _ _) | (with_reducible exact k2 _ _)))
            refine wpQuiet_nil ?_
            intro wq hbq0
            have hbq := Lib.hid hbq0
            clear hbq0
            clear y0_q y1_q
            go_wp2
            go_roundw
            case rel => exact ⟨k + 1, k, by omega, by go_num, by unfold Hid; rw [HST.out, hB, if_pos rfl, HST2.out, hFF.out], hlt, rfl, Below.then HB.out hbq.out, HX.out.below hbq.out⟩
            case measure => simp [intOf]; omega
    · obtain rfl : k = n := by omega
      go_wp2
      go_ret
      exact ⟨ret_int (by rw [hK.out, ← HM1.out]), HB.out⟩
end Go.Proofs.Ytoblhnfnjagajab
