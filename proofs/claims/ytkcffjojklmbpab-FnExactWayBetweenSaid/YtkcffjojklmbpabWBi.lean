/- FnExactWayBetween: impl.WayBetween. -/
import Derived.Test.YtkcffjojklmbpabLev
import Derived.Test.YtkcffjojklmbpabThrS
namespace Go.Proofs.Ytkcffjojklmbpab
open Go.RowKit Go.Sort
set_option maxRecDepth 100000
set_option maxHeartbeats 1000000 in
theorem wb1_any (way : List Nat) (v : Value) (k b : Nat) (gb gk : Nat) (W : World) (ck : W.cell? ⟨gk, 0, none⟩ = some (.int .i64 k)) (cb : W.cell? ⟨gb, 0, none⟩ = some (.int .i64 b))
    (hl : way.length = k) (hk : 1 ≤ k ∧ k ≤ 8) (h : Rd W v (nI way)) :
    Calls Try.prog 42 #[v, .pointer (some ⟨gk, 0, none⟩), .pointer (some ⟨gb, 0, none⟩)] W fun e w' => e = .returned (.bool (wB b way)) ∧ Below W.heap.size W w' := by
  obtain ⟨A, c, rfl, hlc, hm, hc⟩ := h
  rw [nI_len, hl] at hlc hc
  rw [nI_len, hl]
  unfold maxLen at hm
  obtain ⟨p, hpk⟩ : ∃ p, k = p + 1 := ⟨k - 1, by omega⟩
  obtain ⟨g, off, rfl, hg, hcell⟩ := hc (by omega)
  have hlast := hcell p (by omega)
  rw [nI_getD (by omega)] at hlast
  have hlw : lastN way = way.getD p 0 := by unfold lastN; rw [hl, hpk]; rfl
  have hF : Hid (wB b way = ((way.getD p 0 : Nat) == b)) := by unfold Hid wB; rw [hlw]
  have hidx : IntKind.i64.wrap ((k : Int) - 1) = p := by rw [show (k : Int) - 1 = p by omega]; rw [IntKind.wrap_i64]; omega
  have i1 : (0 : Int) ≤ p := by omega
  have i2 : (p : Int) < k := by omega
  have i3 : p < k := by omega
  have hq := beqNat (way.getD p 0) b
  generalize way.getD p 0 = last at *
  have d3 := cell_regrown ck
  have d4 := cell_regrown cb
  have d5 := cell_regrown hlast
  clear ck cb hlast hcell hc hl hpk
  go_enter Try.func42, Try.ntmps42
  go_wp2_with fail
  refine wp_region_below (by kernel_rfl) (by kernel_rfl) ?_
  repeat (go_big_quiet_step (first | fail))
  refine wpQuiet_nil ?_
  intro wq hbq0
  have HBQ := Lib.hid hbq0
  clear hbq0 d3 d4 d5
  go_wp2
  go_ret
  exact ⟨ret_bool (by rw [hF.out]), HBQ.out⟩
theorem enters_wb1 : Enters 42 := fun _ _ => by kernel_rfl
theorem wb_yes {n : Nat} {xs : List Int} {i b k : Nat} {L : List Nat} (hok : wbOk n xs i b = true) (hn : xs.length = n) (h0 : 1 ≤ k) (hk : k ≤ n) (hj : ∀ j, j + 1 < k → dfs xs n (wB b) j [i] = none) (h : dfs xs n (wB b) (k - 1) [i] = some L) : wbO n xs i b = some L := by
  obtain ⟨h1, h2⟩ := wb_hit (by omega) (fun j hjk => hj j (by omega)) h
  unfold wbO
  rw [if_pos hok, Int.toNat_natCast, Int.toNat_natCast, hn, h1, if_neg (by omega), Int.toNat_natCast, h2]
theorem wb_none {n : Nat} {xs : List Int} {i b : Nat} (hok : wbOk n xs i b = true) (hn : xs.length = n) (hi : i < n) (hj : ∀ j, j < n → dfs xs n (wB b) j [i] = none) : wbO n xs i b = none := by
  have h1 := wb_miss hi hj
  unfold wbO
  rw [if_pos hok, Int.toNat_natCast, Int.toNat_natCast, hn, if_pos h1]
def cellN (v : Value) (w : World) : Nat := match v with
  | .pointer (some a) => (intOf ((w.cell? a).getD undef)).toNat
  | _ => 0
theorem cellN_at {w : World} {a : Addr} {k : Nat} (h : w.cell? a = some (.int .i64 k)) : cellN (.pointer (some a)) w = k := by
  simp [cellN, h, intOf]
set_option maxHeartbeats 2000000 in
theorem implWB (s : Int) (sl : Value) (xs : List Int) (a b : Int) (w : World) (h : Rd w sl xs) :
    Calls Try.prog 19 #[.agg #[.int .i64 s, sl], .int .i64 a, .int .i64 b] w fun e w' => ∃ v', e = .returned (.tuple #[v', .bool (wbO s xs a b).isSome]) ∧ Own w' w.heap.size v' (wbL s xs a b) ∧ Below w.heap.size w w' := by
  have HR := Lib.hid h
  obtain ⟨A, c, rfl, -, -, -⟩ := h
  have b3 := (below_alloc1 w (.cells #[.int .i64 s, .slice A xs.length c] 28)).alloc (by simp) (.cells #[.int .i64 b] 3)
  have t0 := (TBox.new w s (.slice A xs.length c) 28).below (below_alloc1 _ (.cells #[.int .i64 b] 3))
  have c1 : ((w.alloc (.cells #[.int .i64 s, .slice A xs.length c] 28)).alloc (.cells #[.int .i64 b] 3)).cell? ⟨w.heap.size + 1, 0, none⟩ = some (.int .i64 b) := by
    have := cell_new1 (w.alloc (.cells #[.int .i64 s, .slice A xs.length c] 28)) (.int .i64 b) 3
    simpa only [World.size_alloc] using this
  have HB0 := Lib.hid b3
  have HT0 := Lib.hid t0
  have C1 := Lib.hid c1
  clear b3 t0 c1
  have qT : ∀ (w : World) (a : Option Addr) (n c n' c' : Nat), (binOp .neq 22 (.slice a n c) (.slice none n' c')).run Try.prog w = .ok (.bool (!a.isNone)) w := fun w a n c n' c' => run_neq_slice_nil w _ _ a n c n' c' Try.underlying22
  rcases q0 : tourB s xs with _ | _
  · have hno := wbO_no (show wbOk s xs a b = false by simp [wbOk, q0])
    rw [wbL, hno]
    go_enter Try.func19, Try.ntmps19
    go_wp2_with fail
    generalize ((w.alloc (.cells #[.int .i64 s, .slice A xs.length c] 28)).alloc (.cells #[.int .i64 b] 3)) = w0 at *
    have y0 := HT0.out.1
    have y1 := HT0.out.2
    go_wp2_with fail
    refine (implTourOk s _ xs _ (HR.out.below HB0.out)).mono ?_
    rintro e w1 ⟨rfl, hb⟩
    rw [q0]
    have HB1 := Lib.hid (Below.then HB0.out hb)
    go_wp2
    go_ret2
    exact ⟨.slice none 0 0, rfl, Own.nil_ _ _, HB1.out⟩
  have hp := tourB_true.1 q0
  have hs := hp.1
  have hsl := hp.2.1
  rcases q1 : inB a 0 (s - 1) with _ | _
  · have hno := wbO_no (show wbOk s xs a b = false by simp [wbOk, q1])
    rw [wbL, hno]
    go_enter Try.func19, Try.ntmps19
    go_wp2_with fail
    generalize ((w.alloc (.cells #[.int .i64 s, .slice A xs.length c] 28)).alloc (.cells #[.int .i64 b] 3)) = w0 at *
    have y0 := HT0.out.1
    have y1 := HT0.out.2
    go_wp2_with fail
    refine (implTourOk s _ xs _ (HR.out.below HB0.out)).mono ?_
    rintro e w1 ⟨rfl, hb⟩
    rw [q0]
    have HB1 := Lib.hid (Below.then HB0.out hb)
    have HT1 := Lib.hid (HT0.out.below hb)
    clear y0 y1
    have y0 := HT1.out.1
    have y1 := HT1.out.2
    go_wp2_with fail
    refine (has_any s _ a _ (by omega)).mono ?_
    rintro e w2 ⟨rfl, hb2⟩
    rw [q1]
    have HB2 := Lib.hid (Below.then HB1.out hb2)
    go_wp2
    go_ret2
    exact ⟨.slice none 0 0, rfl, Own.nil_ _ _, HB2.out⟩
  have ha := inB_true.1 q1
  obtain ⟨i, rfl⟩ := Int.eq_ofNat_of_zero_le ha.1
  rcases q2 : inB b 0 (s - 1) with _ | _
  all_goals
    go_enter Try.func19, Try.ntmps19
    go_wp2_with fail
    generalize ((w.alloc (.cells #[.int .i64 s, .slice A xs.length c] 28)).alloc (.cells #[.int .i64 b] 3)) = w0 at *
    have y0 := HT0.out.1
    have y1 := HT0.out.2
    go_wp2_with fail
    refine (implTourOk s _ xs _ (HR.out.below HB0.out)).mono ?_
    rintro e w1 ⟨rfl, hb⟩
    rw [q0]
    have HB1 := Lib.hid (Below.then HB0.out hb)
    have HT1 := Lib.hid (HT0.out.below hb)
    have C11 := Lib.hid ((hb.cell (World.block_lt_of_cell? _ _ C1.out)).trans C1.out)
    clear y0 y1 hb
    have y0 := HT1.out.1
    have y1 := HT1.out.2
    go_wp2_with fail
    refine (has_any s _ i _ (by omega)).mono ?_
    rintro e w2 ⟨rfl, hb2⟩
    rw [q1]
    have HB2 := Lib.hid (Below.then HB1.out hb2)
    have HT2 := Lib.hid (HT1.out.below hb2)
    have C12 := Lib.hid ((hb2.cell (World.block_lt_of_cell? _ _ C11.out)).trans C11.out)
    clear y0 y1 hb2 HB0 HB1 HT0 HT1 C1 C11
    have y0 := HT2.out.1
    have y1 := HT2.out.2
    have cb := C12.out
    go_wp2_with fail
    refine (has_any s _ b _ (by omega)).mono ?_
    rintro e w3 ⟨rfl, hb3⟩
    rw [q2]
    have HB3 := Lib.hid (Below.then HB2.out hb3)
    have HT3 := Lib.hid (HT2.out.below hb3)
    have C13 := Lib.hid ((hb3.cell (World.block_lt_of_cell? _ _ C12.out)).trans C12.out)
    clear y0 y1 cb hb3 HB2 HT2 C12
  · have hno := wbO_no (show wbOk s xs i b = false by simp [wbOk, q2])
    go_wp2
    go_ret2
    exact ⟨.slice none 0 0, by rw [hno]; rfl, by rw [wbL, hno]; exact Own.nil_ _ _, HB3.out⟩
  · have hbb := inB_true.1 q2
    obtain ⟨t, rfl⟩ := Int.eq_ofNat_of_zero_le hbb.1
    have HOK := Lib.hid (show wbOk s xs i t = true by simp [wbOk, q0, q1, q2])
    obtain ⟨n, rfl⟩ := Int.eq_ofNat_of_zero_le (show 0 ≤ s by omega)
    have HP := Lib.hid hp
    have HN : Hid (xs.length = n) := by unfold Hid; omega
    have hin : i < n := by omega
    have hn8 : 1 ≤ n ∧ n ≤ 8 := by omega
    have hg0 := World.block_lt_of_cell? _ _ HT3.out.1
    have hg1 := World.block_lt_of_cell? _ _ C13.out
    clear q0 q1 q2 hp hs hsl hbb ha
    go_wp2
    have hs0 : (w3.alloc (.cells #[.int .i64 0] 3)).heap.size = w3.heap.size + 1 := by simp
    go_loopw [8] (fun p wr => ∃ (g8 k : Nat), p = .pointer (some ⟨g8, 0, none⟩) ∧ 1 ≤ k ∧ k ≤ n + 1 ∧ wr.cell? ⟨g8, 0, none⟩ = some (.int .i64 k) ∧ Hid (Below w3.heap.size w3 wr) ∧ Hid (∀ j, j + 1 < k → dfs xs n (wB t) j [i] = none)) (fun p wr => n + 1 - cellN p wr)
    case atStart =>
      refine ⟨w3.heap.size, 1, rfl, by omega, by omega, ?_, ?_, fun j hj => absurd hj (by omega)⟩
      · simp
      · exact below_alloc1 _ _
    case round =>
      obtain ⟨wo, rfl⟩ : ∃ x, x = wr := ⟨_, rfl⟩
      obtain ⟨g8, k, rfl, hk1, hk2, ck, HB, HD⟩ := hrel
      have HTo := Lib.hid (HT3.out.below HB.out)
      have Cbo := Lib.hid ((HB.out.cell hg1).trans C13.out)
      have HBo := Lib.hid (Below.then HB3.out HB.out)
      have y0 := HTo.out.1
      have y1 := HTo.out.2
      have CK := Lib.hid ck
      by_cases hkn : k ≤ n
      · have HW : WantP 42 #[.pointer (some ⟨g8, 0, none⟩), .pointer (some ⟨w.heap.size + 1, 0, none⟩)] (wB t) k xs.length wo := fun way v W hl _ hB hr =>
          wb1_any way v k t _ _ W ((hB.cell (World.block_lt_of_cell? _ _ CK.out)).trans CK.out) ((hB.cell (World.block_lt_of_cell? _ _ Cbo.out)).trans Cbo.out) hl (by omega) hr
        have HRD := Lib.hid (HR.out.below HBo.out)
        have HWW := Lib.hid HW
        have HOL := Lib.hid (show Own (wo.alloc (.cells #[.int .i64 i] 3)) wo.heap.size (.slice (some ⟨wo.heap.size, 0, none⟩) 1 1) (nI [i]) from Own.lit wo wo.heap.size [(i : Int)] (Nat.le_refl _) (by simp))
        have ck2 := ((below_alloc1 wo (.cells #[.int .i64 i] 3)).cell (World.block_lt_of_cell? _ _ CK.out)).trans CK.out
        have hle : (k : Int) ≤ n := by omega
        clear HW
        go_wp2_with fail
        refine (wayOn_any n _ xs HP.out 42 _ enters_wb1 (wB t) k wo HRD.out HWW.out (by omega) (k - 1) [i] wo.heap.size _ _ (below_alloc1 _ _) (Nat.le_refl _) (by simp) HOL.out (by simp) (by simp; omega) (fun x hx => by have := HN.out; simp at hx; omega)).mono ?_
        rintro e w6 ⟨v6, rfl, hs6, hn6, hg6, -⟩
        rw [HN.out] at hs6 hn6
        have HB6 := Lib.hid (below_of_grown (below_alloc1 wo _) hg6 (fun x hx => by injection hx with hx; exact Nat.le_of_eq hx))
        clear hg6 ck ck2
        have ck := (HB6.out.cell (World.block_lt_of_cell? _ _ CK.out)).trans CK.out
        rcases hd : dfs xs n (wB t) (k - 1) [i] with _ | L
        · have := hn6 hd
          subst this
          have HDD := Lib.hid hd
          clear hd hs6 hn6
          go_wp2
          go_roundw
          case rel =>
            refine ⟨w6.heap.size, k + 1, rfl, by omega, by omega, by rw [cell_new1]; simp, Below.then HB.out (Below.then HB6.out (below_alloc1 _ _)), fun j hj => ?_⟩
            by_cases hjk : j + 1 < k
            · exact HD.out j hjk
            · obtain rfl : j = k - 1 := by omega
              exact HDD.out
          case measure =>
            rw [cellN_at (k := k + 1) (by rw [cell_new1]; simp), cellN_at CK.out]
            omega
        · obtain ⟨⟨g6, c6, rfl⟩, ho⟩ := hs6 L hd
          have HOO := Lib.hid (wb_yes HOK.out HN.out hk1 hkn HD.out hd)
          have HOW := Lib.hid (ho.mono (show w.heap.size ≤ _ by have := HBo.out.size; simp; omega))
          have HBW := Lib.hid (Below.then HBo.out HB6.out)
          clear hd hs6 hn6 ho
          go_wp2
          go_ret2
          exact ⟨.slice (some ⟨g6, 0, none⟩) k c6, by rw [HOO.out]; rfl, by rw [wbL, HOO.out]; exact HOW.out, HBW.out⟩
      · have HOO := Lib.hid (wb_none HOK.out HN.out hin (fun j hj => HD.out j (by omega)))
        have hgt : (n : Int) < k := by omega
        go_wp2
        go_ret2
        exact ⟨.slice none 0 0, by rw [HOO.out]; rfl, by rw [wbL, HOO.out]; exact Own.nil_ _ _, HBo.out⟩
end Go.Proofs.Ytkcffjojklmbpab
