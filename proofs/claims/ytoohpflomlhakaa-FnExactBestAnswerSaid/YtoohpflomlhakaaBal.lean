/- Balances of strategies: the functions. -/
import Derived.Test.YtoohpflomlhakaaStrat
namespace Go.Proofs.Ytoohpflomlhakaa
open Go.RowKit Go.Sort

/-- what player a adds to the balance of b -/
def balT (xs ws : List Int) (b a : Nat) : Int := if bitI (xs.getD a 0) b = true then ws.getD a 0 else if bitI (xs.getD b 0) a = true then - ws.getD a 0 else 0
def balK (xs ws : List Int) (b : Nat) : Nat → Int
  | 0 => 0
  | k + 1 => balK xs ws b k + balT xs ws b k
/-- the balance of player b -/
def balI (xs ws : List Int) (b : Nat) : Int := balK xs ws b ws.length
theorem balK_bd {xs ws : List Int} (b : Nat) (h : ∀ x ∈ ws, 0 ≤ x ∧ x ≤ 100000) (k : Nat) (hk : k ≤ ws.length) : -(100000 * (k : Int)) ≤ balK xs ws b k ∧ balK xs ws b k ≤ 100000 * k := by
  induction k with
  | zero => simp [balK]
  | succ k ih =>
    have ih := ih (by omega)
    have hx := h (ws.getD k 0) (by
      rw [List.getD_eq_getElem?_getD, List.getElem?_eq_getElem (by omega)]; exact List.getElem_mem _)
    simp only [balK, balT]
    repeat' split
    all_goals omega
theorem tour_excl {s : Int} {xs : List Int} (h : tourP s xs) {a b : Nat} (ha : a < xs.length) (hb : b < xs.length) (hab : bitI (xs.getD a 0) b = true) : bitI (xs.getD b 0) a = false := by
  have hT := h.2.2.2
  rcases Nat.lt_trichotomy a b with hlt | rfl | hlt
  · have := (hT b hb).2 a hlt
    rw [hab] at this
    cases hq : bitI (xs.getD b 0) a with
    | false => rfl
    | true => exact absurd hq this
  · have := (hT a ha).1
    rw [hab] at this
    cases this
  · have := (hT a ha).2 b hlt
    rw [hab] at this
    cases hq : bitI (xs.getD b 0) a with
    | false => rfl
    | true => rw [hq] at this; exact absurd rfl this

set_option maxHeartbeats 1000000 in
theorem balance_any (s : Int) (sl : Value) (xs : List Int) (wv : Value) (ws : List Int) (b : Int) (w : World) (h : Rd w sl xs) (h2 : Rd w wv ws) (hp : stratB s xs ws = true) (hb0 : 0 ≤ b) (hb1 : b < ws.length) :
    Calls Try.prog 71 #[.agg #[.int .i64 s, sl], wv, .int .i64 b] w fun e w' => e = .returned (.int .i64 (balI xs ws b.toNat)) ∧ Below w.heap.size w w' := by
  obtain ⟨b, rfl⟩ := Int.eq_ofNat_of_zero_le hb0
  obtain ⟨A, c, rfl, hl, hm, hc⟩ := h
  obtain ⟨B, d, rfl, hl2, hm2, hc2⟩ := h2
  unfold maxLen at hm hm2
  obtain ⟨tp, hls, hrange, -⟩ := stratB_true.1 hp
  have hxl : xs.length = ws.length := by have := tp.2.1; omega
  have h8 : ws.length ≤ 8 := by have := tp.1; omega
  have hbl : b < ws.length := by omega
  have HR := Lib.hid hrange
  have HC := Lib.hid hc
  have HC2 := Lib.hid hc2
  have HXL := Lib.hid hxl
  have x0 := TBox.new w s (.slice A xs.length c) 27
  have b0 := below_alloc1 w (.cells #[.int .i64 s, .slice A xs.length c] 27)
  have HB := Lib.hid b0
  have y0 := x0.1
  have y1 := x0.2
  clear hp tp hls hrange hc hc2 hxl x0 b0
  go_enter Try.func71, Try.ntmps71
  go_wp2
  generalize w.alloc (.cells #[.int .i64 s, .slice A xs.length c] 27) = w0 at *
  go_loop [7, 12] (fun u i => ∃ k : Nat, k ≤ ws.length ∧ i = .int .i64 k ∧ u = .int .i64 (balK xs ws b k)) (fun _ i => ws.length - (intOf i).toNat)
  case atStart => exact ⟨0, by omega, rfl, rfl⟩
  case round =>
    obtain ⟨k, hk, rfl, rfl⟩ := hrel
    by_cases hlt : k < ws.length
    · have hkx : k < xs.length := by rw [HXL.out]; exact hlt
      have hbx : b < xs.length := by rw [HXL.out]; exact hbl
      obtain ⟨g, off, rfl, hg, hx⟩ := HC.out (by omega)
      obtain ⟨g', off', rfl, hg', hy⟩ := HC2.out (by omega)
      have hxk := (HB.out.cell (by exact hg)).trans (hx k hkx)
      have hxb := (HB.out.cell (by exact hg)).trans (hx b hbx)
      have hyk := (HB.out.cell (by exact hg')).trans (hy k hlt)
      have hbd := balK_bd (xs := xs) b HR.out k (by omega)
      have hwk := HR.out ws[k] (List.getElem_mem hlt)
      have hst : balK xs ws b (k + 1) = balK xs ws b k + balT xs ws b k := rfl
      have e1 : xs.getD k 0 = xs[k] := by simp [hkx]
      have e2 : xs.getD b 0 = xs[b] := by simp [hbx]
      have e3 : ws.getD k 0 = ws[k] := by simp [hlt]
      rw [e1] at hxk
      rw [e2] at hxb
      rw [e3] at hyk
      have HT : Hid (balT xs ws b k = if bitI xs[k] b = true then ws[k] else if bitI xs[b] k = true then - ws[k] else 0) := by unfold Hid balT; rw [e1, e2, e3]
      have HS := Lib.hid hst
      clear hx hy hst e1 e2 e3
      generalize balK xs ws b k = m at *
      rcases q1 : bitI xs[k] b with _ | _
      · have q1' : (bits BinOp.and IntKind.i64 (xs[k] / 2 ^ b) 1 == 1) = false := by rw [bit_walk]; exact q1
        rcases q2 : bitI xs[b] k with _ | _
        · have q2' : (bits BinOp.and IntKind.i64 (xs[b] / 2 ^ k) 1 == 1) = false := by rw [bit_walk]; exact q2
          go_wp2
          go_round
          case rel => exact ⟨k + 1, by omega, by go_num, by rw [HS.out, HT.out, q1, q2]; simp⟩
          case measure => simp [intOf]; omega
        · have q2' : (bits BinOp.and IntKind.i64 (xs[b] / 2 ^ k) 1 == 1) = true := by rw [bit_walk]; exact q2
          go_wp2
          go_round
          case rel => exact ⟨k + 1, by omega, by go_num, by rw [HS.out, HT.out, q1, q2]; simp; omega⟩
          case measure => simp [intOf]; omega
      · have q1' : (bits BinOp.and IntKind.i64 (xs[k] / 2 ^ b) 1 == 1) = true := by rw [bit_walk]; exact q1
        go_wp2
        go_round
        case rel => exact ⟨k + 1, by omega, by go_num, by rw [HS.out, HT.out, q1]; simp⟩
        case measure => simp [intOf]; omega
    · obtain rfl : k = ws.length := by omega
      go_wp2
      go_ret
      exact ⟨rfl, HB.out⟩
set_option maxHeartbeats 1000000 in
theorem l10Balance_any (s : Int) (sl : Value) (xs : List Int) (wv : Value) (ws : List Int) (b : Int) (w : World) (h : Rd w sl xs) (h2 : Rd w wv ws) (hp : stratB s xs ws = true) (hb0 : 0 ≤ b) (hb1 : b < ws.length) :
    Calls Try.prog 70 #[.agg #[.int .i64 s, sl], wv, .int .i64 b] w fun e w' => e = .returned (.int .i64 (balI xs ws b.toNat)) ∧ Below w.heap.size w w' := by
  obtain ⟨b, rfl⟩ := Int.eq_ofNat_of_zero_le hb0
  have HRD := Lib.hid h
  obtain ⟨A, c, rfl, hl, hm, -⟩ := h
  obtain ⟨B, d, rfl, hl2, hm2, hc2⟩ := h2
  unfold maxLen at hm hm2
  obtain ⟨tp, hls, hrange, -⟩ := stratB_true.1 hp
  have hxl : xs.length = ws.length := by have := tp.2.1; omega
  have h8 : ws.length ≤ 8 := by have := tp.1; omega
  have hbl : b < ws.length := by omega
  have HTP := Lib.hid tp
  have HR := Lib.hid hrange
  have HC2 := Lib.hid hc2
  have HXL := Lib.hid hxl
  have x0 := TBox.new w s (.slice A xs.length c) 27
  have b0 := below_alloc1 w (.cells #[.int .i64 s, .slice A xs.length c] 27)
  have HB := Lib.hid b0
  have HX := Lib.hid x0
  clear hp tp hls hrange hc2 hxl x0 b0
  go_enter Try.func70, Try.ntmps70
  go_wp2
  generalize w.alloc (.cells #[.int .i64 s, .slice A xs.length c] 27) = w0 at *
  go_loopw [7, 12] (fun u i wr => ∃ k : Nat, k ≤ ws.length ∧ i = .int .i64 k ∧ u = .int .i64 (balK xs ws b k) ∧ Below w.heap.size w wr ∧ TBox wr w.heap.size s (.slice A xs.length c)) (fun _ i _ => ws.length - (intOf i).toNat)
  case atStart => exact ⟨0, by omega, rfl, rfl, HB.out, HX.out⟩
  case round =>
    obtain ⟨k, hk, rfl, rfl, hb, hx⟩ := hrel
    have HB' := Lib.hid hb
    have HX' := Lib.hid hx
    have y0 := hx.1
    have y1 := hx.2
    clear hx HB HX
    by_cases hlt : k < ws.length
    · have hkx : k < xs.length := by rw [HXL.out]; exact hlt
      have hbx : b < xs.length := by rw [HXL.out]; exact hbl
      obtain ⟨g', off', rfl, hg', hy⟩ := HC2.out (by omega)
      have hyk := (hb.cell (by exact hg')).trans (hy k hlt)
      have hbd := balK_bd (xs := xs) b HR.out k (by omega)
      have hwk := HR.out ws[k] (List.getElem_mem hlt)
      have hst : balK xs ws b (k + 1) = balK xs ws b k + balT xs ws b k := rfl
      have e3 : ws.getD k 0 = ws[k] := by simp [hlt]
      rw [e3] at hyk
      have HT : Hid (balT xs ws b k = if bitI (xs.getD k 0) b = true then ws[k] else if bitI (xs.getD b 0) k = true then - ws[k] else 0) := by unfold Hid balT; rw [e3]
      have HE := Lib.hid (fun h => tour_excl HTP.out (a := k) (b := b) hkx hbx h)
      have HS := Lib.hid hst
      clear hy hst e3 hb
      generalize balK xs ws b k = m at *
      go_wp2_with fail
      refine (l02Beats_any s _ xs k b _ (HRD.out.below HB'.out) (by omega) (by omega) (by omega) (by omega)).mono ?_
      rintro e w1 ⟨rfl, hb1⟩
      have HB1 := Lib.hid (Below.then HB'.out hb1)
      have HX1 := Lib.hid (HX'.out.below hb1)
      clear hb1 HX' HB' y0 y1
      have y0 := HX1.out.1
      have y1 := HX1.out.2
      rw [show ((k : Int)).toNat = k from rfl, show ((b : Int)).toNat = b from rfl]
      rcases q1 : bitI (xs.getD k 0) b with _ | _
      · go_wp2_with fail
        refine (l02Beats_any s _ xs b k _ (HRD.out.below HB1.out) (by omega) (by omega) (by omega) (by omega)).mono ?_
        rintro e w2 ⟨rfl, hb2⟩
        have HB2 := Lib.hid (Below.then HB1.out hb2)
        have HX2 := Lib.hid (HX1.out.below hb2)
        clear hb2 HX1 HB1 y0 y1
        rw [show ((k : Int)).toNat = k from rfl, show ((b : Int)).toNat = b from rfl]
        rcases q2 : bitI (xs.getD b 0) k with _ | _
        · go_wp2
          go_roundw
          case rel => exact ⟨k + 1, by omega, by go_num, by rw [HS.out, HT.out, q1, q2]; simp, HB2.out, HX2.out⟩
          case measure => simp [intOf]; omega
        · go_wp2
          go_roundw
          case rel => exact ⟨k + 1, by omega, by go_num, by rw [HS.out, HT.out, q1, q2]; simp; omega, HB2.out, HX2.out⟩
          case measure => simp [intOf]; omega
      · have q2 := HE.out q1
        go_wp2_with fail
        refine (l02Beats_any s _ xs b k _ (HRD.out.below HB1.out) (by omega) (by omega) (by omega) (by omega)).mono ?_
        rintro e w2 ⟨rfl, hb2⟩
        have HB2 := Lib.hid (Below.then HB1.out hb2)
        have HX2 := Lib.hid (HX1.out.below hb2)
        clear hb2 HX1 HB1 y0 y1
        rw [show ((k : Int)).toNat = k from rfl, show ((b : Int)).toNat = b from rfl, q2]
        go_wp2
        go_roundw
        case rel => exact ⟨k + 1, by omega, by go_num, by rw [HS.out, HT.out, q1]; simp, HB2.out, HX2.out⟩
        case measure => simp [intOf]; omega
    · obtain rfl : k = ws.length := by omega
      go_wp2
      go_ret
      exact ⟨rfl, HB'.out⟩
end Go.Proofs.Ytoohpflomlhakaa
