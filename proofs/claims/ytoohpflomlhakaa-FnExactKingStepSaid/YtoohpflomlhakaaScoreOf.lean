/- FnExactScoreOf: the functions. -/
import Derived.Test.YtoohpflomlhakaaScore
import Derived.Test.YtoohpflomlhakaaBeat
namespace Go.Proofs.Ytoohpflomlhakaa
open Go.RowKit Go.Sort

/-- a player's wins as a natural number -/
def winsN (xs : List Int) (a : Nat) : Nat := (xs.getD a 0).toNat
theorem tour_wins {s : Int} {xs : List Int} (h : tourP s xs) {a : Nat} (ha : a < xs.length) : xs.getD a 0 = (winsN xs a : Int) ∧ winsN xs a < 2 ^ s.toNat ∧ winsN xs a < 256 := by
  have hm : xs.getD a 0 ∈ xs := by
    rw [List.getD_eq_getElem?_getD, List.getElem?_eq_getElem ha]; exact List.getElem_mem _
  have hx := h.2.2.1 _ hm
  have hp := pow_small s (by have := h.1; omega)
  have h2 : ((2 : Int) ^ s.toNat) = ((2 ^ s.toNat : Nat) : Int) := by simp
  unfold winsN
  rw [h2] at hp hx
  omega
noncomputable def scI (s : Int) (xs : List Int) (a : Int) : Int := if (tourB s xs && inB a 0 (s - 1)) = true then (popN 8 (winsN xs a.toNat) : Int) else -1
set_option maxHeartbeats 400000 in
theorem score_any (s : Int) (sl : Value) (xs : List Int) (a : Nat) (w : World) (h : Rd w sl xs) (hp : tourP s xs) (ha : a < xs.length) :
    Calls Try.prog 69 #[.agg #[.int .i64 s, sl], .int .i64 a] w fun e w' => e = .returned (.int .i64 (popN 8 (winsN xs a) : Nat)) ∧ Below w.heap.size w w' := by
  obtain ⟨A, c, rfl, -, hm, hc⟩ := h
  unfold maxLen at hm
  have hw := tour_wins hp ha
  have hl8 : xs.length ≤ 8 := by have := hp.1; have := hp.2.1; omega
  obtain ⟨g, off, rfl, hg, hx⟩ := hc (by omega)
  have hxa := hx a ha
  rw [hw.1] at hxa
  generalize winsN xs a = x at *
  have h256 := hw.2.2
  have X0 := TBox.new w s (.slice (some ⟨g, off, none⟩) xs.length c) 27
  have b0 := below_alloc1 w (.cells #[.int .i64 s, .slice (some ⟨g, off, none⟩) xs.length c] 27)
  have hxa' := (b0.cell (by exact hg)).trans hxa
  have B0 := Lib.hid b0
  have y1 := X0.2
  clear hx hxa hw b0 X0 hp hc
  go_enter Try.func69, Try.ntmps69
  go_wp2_with (go_at_call 82; refine (ones_any x _ h256).mono ?_; rintro e w1 ⟨rfl, rfl⟩)
  go_ret
  exact ⟨rfl, B0.out⟩
set_option maxHeartbeats 1000000 in
theorem implScoreOf (s : Int) (sl : Value) (xs : List Int) (a : Int) (w : World) (h : Rd w sl xs) :
    Calls Try.prog 37 #[.agg #[.int .i64 s, sl], .int .i64 a] w fun e w' => e = .returned (.int .i64 (scI s xs a)) ∧ Below w.heap.size w w' := by
  have HR := Lib.hid h
  obtain ⟨A, c, rfl, -, -, -⟩ := h
  rcases q0 : tourB s xs with _ | _
  case false =>
    go_enter Try.func37, Try.ntmps37
    go_wp2_with fail
    have b0 := below_alloc1 w (.cells #[.int .i64 s, .slice A xs.length c] 27)
    have x0 := TBox.new w s (.slice A xs.length c) 27
    generalize w.alloc (.cells #[.int .i64 s, .slice A xs.length c] 27) = w0 at *
    have HX0 := Lib.hid x0
    have HB0 := Lib.hid b0
    clear x0 b0
    have y0_0 := HX0.out.1
    have y1_0 := HX0.out.2
    go_wp2_with fail
    refine (implTourOk s _ xs _ (HR.out.below HB0.out)).mono ?_
    rintro e w1 ⟨rfl, hb⟩
    have HX1 := Lib.hid (HX0.out.below hb)
    have HB1 := Lib.hid (Below.then HB0.out hb)
    clear hb HX0 HB0 y0_0 y1_0
    have y0_1 := HX1.out.1
    have y1_1 := HX1.out.2
    rw [q0]
    go_wp2
    go_ret
    exact ⟨ret_int (by simp [scI, *]), HB1.out⟩
  have hp := tourB_true.1 q0
  have hs := hp.1
  have hl := hp.2.1
  rcases q1 : inB a 0 (s - 1) with _ | _
  case false =>
    go_enter Try.func37, Try.ntmps37
    go_wp2_with fail
    have b0 := below_alloc1 w (.cells #[.int .i64 s, .slice A xs.length c] 27)
    have x0 := TBox.new w s (.slice A xs.length c) 27
    generalize w.alloc (.cells #[.int .i64 s, .slice A xs.length c] 27) = w0 at *
    have HX0 := Lib.hid x0
    have HB0 := Lib.hid b0
    clear x0 b0
    have y0_0 := HX0.out.1
    have y1_0 := HX0.out.2
    go_wp2_with fail
    refine (implTourOk s _ xs _ (HR.out.below HB0.out)).mono ?_
    rintro e w1 ⟨rfl, hb⟩
    have HX1 := Lib.hid (HX0.out.below hb)
    have HB1 := Lib.hid (Below.then HB0.out hb)
    clear hb HX0 HB0 y0_0 y1_0
    have y0_1 := HX1.out.1
    have y1_1 := HX1.out.2
    rw [q0]
    go_wp2_with fail
    refine (has_any s (.slice A xs.length c) a _ (by omega)).mono ?_
    rintro e w2 ⟨rfl, hb⟩
    have HX2 := Lib.hid (HX1.out.below hb)
    have HB2 := Lib.hid (Below.then HB1.out hb)
    clear hb HX1 HB1 y0_1 y1_1
    have y0_2 := HX2.out.1
    have y1_2 := HX2.out.2
    rw [q1]
    go_wp2
    go_ret
    exact ⟨ret_int (by simp [scI, *]), HB2.out⟩
  have ha := inB_true.1 q1
  go_enter Try.func37, Try.ntmps37
  go_wp2_with fail
  have b0 := below_alloc1 w (.cells #[.int .i64 s, .slice A xs.length c] 27)
  have x0 := TBox.new w s (.slice A xs.length c) 27
  generalize w.alloc (.cells #[.int .i64 s, .slice A xs.length c] 27) = w0 at *
  have HX0 := Lib.hid x0
  have HB0 := Lib.hid b0
  clear x0 b0
  have y0_0 := HX0.out.1
  have y1_0 := HX0.out.2
  go_wp2_with fail
  refine (implTourOk s _ xs _ (HR.out.below HB0.out)).mono ?_
  rintro e w1 ⟨rfl, hb⟩
  have HX1 := Lib.hid (HX0.out.below hb)
  have HB1 := Lib.hid (Below.then HB0.out hb)
  clear hb HX0 HB0 y0_0 y1_0
  have y0_1 := HX1.out.1
  have y1_1 := HX1.out.2
  rw [q0]
  go_wp2_with fail
  refine (has_any s (.slice A xs.length c) a _ (by omega)).mono ?_
  rintro e w2 ⟨rfl, hb⟩
  have HX2 := Lib.hid (HX1.out.below hb)
  have HB2 := Lib.hid (Below.then HB1.out hb)
  clear hb HX1 HB1 y0_1 y1_1
  have y0_2 := HX2.out.1
  have y1_2 := HX2.out.2
  rw [q1]
  have hF : Hid (scI s xs a = popN 8 (winsN xs a.toNat)) := by unfold Hid; simp [scI, q0, q1]
  obtain ⟨n, rfl⟩ := Int.eq_ofNat_of_zero_le ha.1
  go_wp2_with fail
  refine (score_any s _ xs n _ (HR.out.below HB2.out) hp (by omega)).mono ?_
  rintro e w3 ⟨rfl, hb⟩
  have HX3 := Lib.hid (HX2.out.below hb)
  have HB3 := Lib.hid (Below.then HB2.out hb)
  clear hb HX2 HB2 y0_2 y1_2
  have y0_3 := HX3.out.1
  have y1_3 := HX3.out.2
  go_wp2
  go_ret
  exact ⟨ret_int hF.out.symm, HB3.out⟩
set_option maxHeartbeats 1000000 in
theorem specScoreOf (s : Int) (sl : Value) (xs : List Int) (a : Int) (w : World) (h : Rd w sl xs) :
    Calls Try.prog 36 #[.agg #[.int .i64 s, sl], .int .i64 a] w fun e w' => e = .returned (.int .i64 (scI s xs a)) ∧ Below w.heap.size w w' := by
  have HR := Lib.hid h
  obtain ⟨A, c, rfl, -, hm, hc⟩ := h
  have HC := Lib.hid hc
  unfold maxLen at hm
  clear hc
  rcases q0 : (tourB s xs && inB a 0 (s - 1)) with _ | _
  case false =>
    go_enter Try.func36, Try.ntmps36
    go_wp2_with fail
    have b0 := below_alloc1 w (.cells #[.int .i64 s, .slice A xs.length c] 27)
    have x0 := TBox.new w s (.slice A xs.length c) 27
    generalize w.alloc (.cells #[.int .i64 s, .slice A xs.length c] 27) = w0 at *
    have HX0 := Lib.hid x0
    have HB0 := Lib.hid b0
    clear x0 b0
    have y0_0 := HX0.out.1
    have y1_0 := HX0.out.2
    go_wp2_with fail
    refine (l02Player_any s _ xs a _ (HR.out.below HB0.out)).mono ?_
    rintro e w1 ⟨rfl, hb⟩
    have HX1 := Lib.hid (HX0.out.below hb)
    have HB1 := Lib.hid (Below.then HB0.out hb)
    clear hb HX0 HB0 y0_0 y1_0
    have y0_1 := HX1.out.1
    have y1_1 := HX1.out.2
    rw [q0]
    go_wp2
    go_ret
    exact ⟨ret_int (by simp [scI, q0]), HB1.out⟩
  have q0' := q0
  rw [Bool.and_eq_true] at q0'
  have hp := tourB_true.1 q0'.1
  have hs := hp.1
  have hl := hp.2.1
  have ha := inB_true.1 q0'.2
  go_enter Try.func36, Try.ntmps36
  go_wp2_with fail
  have b0 := below_alloc1 w (.cells #[.int .i64 s, .slice A xs.length c] 27)
  have x0 := TBox.new w s (.slice A xs.length c) 27
  generalize w.alloc (.cells #[.int .i64 s, .slice A xs.length c] 27) = w0 at *
  have HX0 := Lib.hid x0
  have HB0 := Lib.hid b0
  clear x0 b0
  have y0_0 := HX0.out.1
  have y1_0 := HX0.out.2
  go_wp2_with fail
  refine (l02Player_any s _ xs a _ (HR.out.below HB0.out)).mono ?_
  rintro e w1 ⟨rfl, hb⟩
  have HX1 := Lib.hid (HX0.out.below hb)
  have HB1 := Lib.hid (Below.then HB0.out hb)
  clear hb HX0 HB0 y0_0 y1_0
  have y0_1 := HX1.out.1
  have y1_1 := HX1.out.2
  rw [q0]
  have hF : Hid (scI s xs a = popN 8 (winsN xs a.toNat)) := by unfold Hid; simp [scI, q0']
  obtain ⟨n, rfl⟩ := Int.eq_ofNat_of_zero_le ha.1
  obtain ⟨g, off, rfl, hg, hx⟩ := HC.out (by omega)
  have hw := tour_wins hp (a := n) (by omega)
  have hxa := (HB1.out.cell (by exact hg)).trans (hx n (by omega))
  rw [hw.1] at hxa
  rw [show ((n : Int)).toNat = n from rfl] at hF
  generalize winsN xs n = x at *
  have h256 := hw.2.2
  clear hx hw hp
  go_wp2_with (go_at_call 68; refine (l02Bits_any x _ h256).mono ?_; rintro e w2 ⟨rfl, rfl⟩)
  go_ret
  exact ⟨ret_int hF.out.symm, HB1.out⟩
end Go.Proofs.Ytoohpflomlhakaa
