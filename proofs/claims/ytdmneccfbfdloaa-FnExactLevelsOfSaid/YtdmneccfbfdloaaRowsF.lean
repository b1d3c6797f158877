/- The helpers of the laws over slices of slices of ints: eqIntSS, markIntSS, heldIntSS. -/
import Derived.Test.YtdmneccfbfdloaaRowsL
import Derived.Test.YtdmneccfbfdloaaMarks
import Derived.Deep.RegionHeld3
namespace Go.Proofs.Ytdmneccfbfdloaa
open Go.RowKit Go.Sort
set_option maxRecDepth 100000
def RdRows (w : World) (v : Value) (rows : List (List Int)) : Prop := ∃ A c, v = .slice A rows.length c ∧ c ≤ maxLen ∧ rows.length ≤ c ∧
    (0 < rows.length → ∃ g, A = some ⟨g, 0, none⟩ ∧ g < w.heap.size ∧ ∀ k, k < rows.length → ∃ u, w.cell? ⟨g, k, none⟩ = some u ∧ Rd w u (rows.getD k []))
theorem OwnRows.rdr {w : World} {base : Nat} {v : Value} {rows : List (List Int)} (h : OwnRows w base v rows) : RdRows w v rows := by
  obtain ⟨A, c, rfl, hc, hl, hx⟩ := h.form
  refine ⟨A, c, rfl, hc, hl, fun h0 => ?_⟩
  obtain ⟨g, rfl, hg, hk⟩ := hx h0
  refine ⟨g, rfl, hg, fun k hkl => ?_⟩
  obtain ⟨B, d, h1, h2⟩ := hk k hkl
  exact ⟨_, h1, h2.rd⟩
theorem RdRows.below {w w' : World} {v : Value} {rows : List (List Int)} (h : RdRows w v rows) (hb : Below w.heap.size w w') : RdRows w' v rows := by
  obtain ⟨A, c, rfl, hc, hl, hx⟩ := h
  refine ⟨A, c, rfl, hc, hl, fun h0 => ?_⟩
  obtain ⟨g, rfl, hg, hk⟩ := hx h0
  refine ⟨g, rfl, Nat.lt_of_lt_of_le hg hb.size, fun k hkl => ?_⟩
  obtain ⟨u, h1, h2⟩ := hk k hkl
  exact ⟨u, by rw [hb.cell (p := ⟨g, k, none⟩) hg]; exact h1, h2.below hb⟩
set_option maxHeartbeats 2000000 in
theorem eqIntSS_refl (v1 v2 : Value) (rows : List (List Int)) (w : World) (h1 : RdRows w v1 rows) (h2 : RdRows w v2 rows) :
    Calls Try.prog 15 #[v1, v2] w fun e w' => e = .returned (.bool true) ∧ Below w.heap.size w w' := by
  have H1 := Lib.hid h1
  have H2 := Lib.hid h2
  obtain ⟨A, c, rfl, hc, hl, -⟩ := h1
  obtain ⟨B, d, rfl, hd, hl2, -⟩ := h2
  unfold maxLen at hc hd
  generalize hn : rows.length = n at *
  have HN := Lib.hid hn
  clear hn
  go_enter Try.func15, Try.ntmps15
  go_wp2
  go_loopw [5] (fun i wr => ∃ k : Nat, k ≤ n ∧ i = .int .i64 k ∧ Hid (Below w.heap.size w wr)) (fun i _ => n - (intOf i).toNat)
  case atStart => exact ⟨0, by omega, rfl, Below.refl _ _⟩
  case round =>
    obtain ⟨wo, rfl⟩ : ∃ x, x = wr := ⟨_, rfl⟩
    obtain ⟨k, hk, rfl, HB⟩ := hrel
    by_cases hlt : k < n
    · obtain ⟨A', c', e, -, -, hx⟩ := H1.out.below HB.out
      injection e with e1 e2 e3
      subst e1 e3
      clear e2
      rw [HN.out] at hx
      obtain ⟨g, rfl, hg, hx⟩ := hx (by omega)
      obtain ⟨u, hu, ru⟩ := hx k hlt
      obtain ⟨B', d', e, -, -, hy⟩ := H2.out.below HB.out
      injection e with e1 e2 e3
      subst e1 e3
      clear e2
      rw [HN.out] at hy
      obtain ⟨g', rfl, hg', hy⟩ := hy (by omega)
      obtain ⟨u', hu', ru'⟩ := hy k hlt
      have HU := Lib.hid ru
      have HU' := Lib.hid ru'
      clear hx hy ru ru'
      go_wp2_with fail
      go_region_held3 (fun W => W.cell? ⟨g, k, none⟩ = some u ∧ W.cell? ⟨g', k, none⟩ = some u')
        (first | exact ⟨hu, hu'⟩ | exact ⟨hu2, hu2'⟩)
        (first
          | (go_at_call 10; refine (eqIntS_refl u u' (rows.getD k []) wo.drew HU.out HU'.out).mono ?_; rintro e wz ⟨rfl, hz⟩; have HZ := Lib.hid (Below.of_drew hz); clear hz; have hu2 := (HZ.out.cell (p := ⟨g, k, none⟩) hg).trans hu; have hu2' := (HZ.out.cell (p := ⟨g', k, none⟩) hg').trans hu'))
      all_goals
        have HB2 : Hid (Below w.heap.size w wz) := (let r : Below w.heap.size w wo.drew := (let r := HB.out; ⟨r.os, r.tape, r.output, r.size, r.block⟩); Below.then r HZ.out)
        go_wp2
        go_roundw
        case rel => exact ⟨k + 1, by omega, by go_num, HB2.out⟩
        case measure => simp [intOf]; omega
    · obtain rfl : n = k := by omega
      go_wp2
      go_ret
      exact ⟨rfl, HB.out⟩
def offR (rows : List (List Int)) (i : Nat) : Nat := ((rows.take i).map List.length).sum
theorem offR_succ {rows : List (List Int)} {i : Nat} (h : i < rows.length) : offR rows (i + 1) = offR rows i + (rows.getD i []).length := by
  unfold offR
  rw [List.take_succ_eq_append_getElem h, List.map_append, List.sum_append]
  simp [h]
theorem offR_mono {rows : List (List Int)} {i : Nat} : ∀ {j : Nat}, i ≤ j → j ≤ rows.length → offR rows i ≤ offR rows j := by
  intro j
  induction j with
  | zero => intro h _; rw [show i = 0 by omega]; exact Nat.le_refl _
  | succ j ih =>
    intro h hj
    rcases Nat.lt_or_ge i (j + 1) with h1 | h1
    · have := ih (by omega) (by omega)
      rw [offR_succ (by omega)]; omega
    · rw [show i = j + 1 by omega]; exact Nat.le_refl _
theorem offR_len (rows : List (List Int)) : offR rows rows.length = (rows.map List.length).sum := by unfold offR; rw [List.take_length]
theorem sum_bd (rows : List (List Int)) (b : Nat) (h : ∀ r ∈ rows, r.length ≤ b) : (rows.map List.length).sum ≤ b * rows.length := by
  induction rows with
  | nil => simp
  | cons r rows ih =>
    have h1 := h r (by simp)
    have h2 := ih fun r' hr => h r' (by simp [hr])
    rw [List.map_cons, List.sum_cons, List.length_cons, Nat.mul_succ]; omega
/-- the rows that markIntSS writes -/
def marksSS (k : Int) (rows : List (List Int)) : List (List Int) := (List.range rows.length).map fun i => marks (k + offR rows i) (rows.getD i []).length
theorem marksSS_length (k : Int) (rows : List (List Int)) : (marksSS k rows).length = rows.length := by simp [marksSS]
theorem marksSS_getD (k : Int) {rows : List (List Int)} {i : Nat} (h : i < rows.length) : (marksSS k rows).getD i [] = marks (k + offR rows i) (rows.getD i []).length := by simp [marksSS, h]
theorem rows_ext {N M : List (List Int)} {n : Nat} (h1 : N.length = n) (h2 : M.length = n) (h : ∀ i, i < n → N.getD i [] = M.getD i []) : N = M := by
  apply List.ext_getElem (by omega)
  intro i a b
  have := h i (by omega)
  simpa [a, b] using this
set_option maxHeartbeats 2000000 in
theorem markIntSS_any (v : Value) (rows : List (List Int)) (base : Nat) (k : Int) (w : World) (h : OwnRows w base v rows) (hbase : base ≤ w.heap.size) (hlen : (rows.map List.length).sum ≤ 1048576) (hk : 0 ≤ k) (hk2 : k ≤ 1048576) :
    Calls Try.prog 16 #[v, .int .i64 k] w fun e w' => e = .returned (.int .i64 (k + ((rows.map List.length).sum : Nat))) ∧ OwnRows w' base v (marksSS k rows) ∧ Below base w w' := by
  have H := Lib.hid h
  obtain ⟨A, c, rfl, hc, hl, -⟩ := h.form
  obtain ⟨us, hU⟩ := h
  have HL := Lib.hid (offR_len rows)
  have HM := Lib.hid (fun (i j : Nat) => @offR_mono rows i j)
  have HS := Lib.hid (fun (i : Nat) => @offR_succ rows i)
  have HR := Lib.hid (fun (i : Nat) => @marksSS_getD k rows i)
  have HRL := Lib.hid (marksSS_length k rows)
  have HUL := Lib.hid hU.1
  have HU := Lib.hid hU
  unfold maxLen at hc
  have hl0 := HL.out
  clear hU
  generalize (rows.map List.length).sum = tot at *
  generalize hn : rows.length = n at *
  have HN := Lib.hid hn
  clear hn hl0
  go_enter Try.func16, Try.ntmps16
  go_wp2
  go_loopw [1, 5] (fun s i wr => ∃ (j q : Nat) (R : List (List Int)), j ≤ n ∧ i = .int .i64 j ∧ q ≤ tot ∧ s = .int .i64 (k + q) ∧ Hid (offR rows j = q) ∧ Hid (R.length = n) ∧ Hid (OwnRowsU wr base (.slice A n c) us R) ∧ Hid (∀ a, a < n → R.getD a [] = if a < j then (marksSS k rows).getD a [] else rows.getD a []) ∧ Hid (Below base w wr)) (fun _ i _ => n - (intOf i).toNat)
  case atStart => exact ⟨0, 0, rows, by omega, rfl, by omega, by simp, by simp [offR, Hid], HN.out, HU.out, fun a ha => by simp, Below.refl _ _⟩
  case round =>
    obtain ⟨wo, rfl⟩ : ∃ x, x = wr := ⟨_, rfl⟩
    obtain ⟨j, q, R, hj, rfl, hq, rfl, HQ, HRl, HO, HG, HB⟩ := hrel
    by_cases hlt : j < n
    · obtain ⟨A', c', e, -, -, hx⟩ := OwnRows.form ⟨us, HO.out⟩
      injection e with e1 e2 e3
      subst e1 e3
      clear e2
      rw [HRl.out] at hx
      obtain ⟨g, rfl, hg, -⟩ := hx (by omega)
      have hcell := World.ownsRow.cells HO.out.2.1 (g := g) rfl j (us.getD j (.slice none 0 0)) (by have := HUL.out; have := HN.out; simp [show j < us.length by omega])
      rw [Addr.add_lit, Nat.zero_add] at hcell
      have hrow := HO.out.2.2.1 j (by rw [HRl.out]; exact hlt)
      have hbs := HB.out.size
      have hRj := HG.out j hlt
      rw [if_neg (Nat.lt_irrefl _)] at hRj
      rw [hRj] at hrow
      have hs := HS.out j (by have := HN.out; omega)
      rw [HQ.out] at hs
      have hm := HM.out (j + 1) n (by omega) (by have := HN.out; omega)
      rw [HL.out, hs] at hm
      have HROW := Lib.hid hrow
      have HS2 := Lib.hid hs
      clear hx hrow hs hRj
      obtain ⟨len, hlen2⟩ : ∃ len, (rows.getD j []).length = len := ⟨_, rfl⟩
      rw [hlen2] at hm
      have HLEN := Lib.hid hlen2
      clear hlen2
      go_wp2_with fail
      refine (markIntS_any _ (rows.getD j []) base (k + q) wo HROW.out (by have := HLEN.out; omega) (by omega) (by omega)).mono ?_
      rintro e w2 ⟨rfl, ho2, hg2⟩
      rw [HLEN.out] at ho2
      have HO2 : Hid (OwnRowsU w2 base (.slice (some ⟨g, 0, none⟩) n c) us (R.set j (marks (k + q) len))) := HO.out.row (by rw [HRl.out]; exact hlt) ho2 hg2
      have HB2 := Lib.hid (HB.out.grown hg2 (by omega) (fun g hg => (HROW.out.lt g hg).1))
      have hX : Ending.returned (.int .i64 (k + (q : Int) + ((rows.getD j []).length : Int))) = .returned (.int .i64 (k + ((q + len : Nat) : Int))) := by rw [HLEN.out]; exact ret_int (by omega)
      rw [hX]
      clear ho2 hg2 hX
      go_wp2
      go_roundw
      case rel =>
        refine ⟨j + 1, q + len, R.set j (marks (k + q) len), by omega, by go_num, by omega, rfl, by unfold Hid; rw [HS2.out, HLEN.out], by unfold Hid; rw [List.length_set]; exact HRl.out, HO2.out, fun a ha => ?_, HB2.out⟩
        by_cases haj : a = j
        · subst haj
          rw [if_pos (by omega), HR.out a (by have := HN.out; omega), HQ.out, HLEN.out]
          have := HRl.out
          simp [List.getD_eq_getElem?_getD, show a < R.length by omega]
        · rw [show (R.set j (marks (k + q) len)).getD a [] = R.getD a [] by simp [List.getD_eq_getElem?_getD, List.getElem?_set_ne (Ne.symm haj)], HG.out a ha]
          by_cases h1 : a < j
          · rw [if_pos h1, if_pos (by omega)]
          · rw [if_neg h1, if_neg (by omega)]
      case measure => simp [intOf]; omega
    · obtain rfl : n = j := by omega
      have hq2 : q = tot := by have := HQ.out; have := HL.out; omega
      have HE : Hid (R = marksSS k rows) := rows_ext HRl.out HRL.out fun a ha => by rw [HG.out a ha, if_pos ha]
      subst hq2
      go_wp2
      go_ret
      exact ⟨rfl, ⟨us, by rw [← HE.out]; exact HO.out⟩, HB.out⟩
set_option maxHeartbeats 2000000 in
theorem heldIntSS_any (v : Value) (rows : List (List Int)) (k : Int) (w : World) (h : RdRows w v (marksSS k rows)) (hlen : (rows.map List.length).sum ≤ 1048576) (hk : 0 ≤ k) (hk2 : k ≤ 1048576) :
    Calls Try.prog 17 #[v, .int .i64 k] w fun e w' => e = .returned (.int .i64 (k + ((rows.map List.length).sum : Nat))) ∧ w = w' := by
  obtain ⟨A, c, rfl, hc, hl, hx⟩ := h
  rw [marksSS_length] at hl hx
  have hx2 : 0 < rows.length → ∃ g, A = some ⟨g, 0, none⟩ ∧ g < w.heap.size ∧ ∀ a, a < rows.length → ∃ u, w.cell? ⟨g, a, none⟩ = some u ∧ Rd w u (marks (k + offR rows a) (rows.getD a []).length) := fun h0 => by
    obtain ⟨g, e, hg, hy⟩ := hx h0
    refine ⟨g, e, hg, fun a ha => ?_⟩
    obtain ⟨u, h1, h2⟩ := hy a ha
    rw [marksSS_getD k ha] at h2
    exact ⟨u, h1, h2⟩
  rw [marksSS_length]
  have HX := Lib.hid hx2
  have HL := Lib.hid (offR_len rows)
  have HM := Lib.hid (fun (i j : Nat) => @offR_mono rows i j)
  have HS := Lib.hid (fun (i : Nat) => @offR_succ rows i)
  clear hx hx2
  unfold maxLen at hc
  generalize (rows.map List.length).sum = tot at *
  generalize hn : rows.length = n at *
  have HN := Lib.hid hn
  clear hn
  go_enter Try.func17, Try.ntmps17
  go_wp2
  go_loop [1, 5] (fun s i => ∃ j q : Nat, j ≤ n ∧ i = .int .i64 j ∧ q ≤ tot ∧ s = .int .i64 (k + q) ∧ Hid (offR rows j = q)) (fun _ i => n - (intOf i).toNat)
  case atStart => exact ⟨0, 0, by omega, rfl, by omega, by simp, by simp [offR, Hid]⟩
  case round =>
    obtain ⟨j, q, hj, rfl, hq, rfl, HQ⟩ := hrel
    by_cases hlt : j < n
    · obtain ⟨g, rfl, hg, hy⟩ := HX.out (by omega)
      obtain ⟨u, hu, ru⟩ := hy j hlt
      have hs := HS.out j (by have := HN.out; omega)
      rw [HQ.out] at hs ru
      have hm := HM.out (j + 1) n (by omega) (by have := HN.out; omega)
      rw [HL.out, hs] at hm
      have HS2 := Lib.hid hs
      clear hs hy
      generalize (rows.getD j []).length = len at *
      have HU := Lib.hid ru
      clear ru
      go_wp2_with fail
      refine (heldMarks_any u len (k + q) w HU.out (by omega) (by omega) (by omega)).mono ?_
      rintro e w2 ⟨rfl, rfl⟩
      rw [show k + (q : Int) + (len : Int) = k + ((q + len : Nat) : Int) by omega]
      have hpos : ¬ k + ((q + len : Nat) : Int) < 0 := by omega
      go_wp2
      go_round
      case rel => exact ⟨j + 1, q + len, by omega, by go_num, by omega, rfl, HS2.out⟩
      case measure => simp [intOf]; omega
    · obtain rfl : n = j := by omega
      have hq2 : q = tot := by have := HQ.out; have := HL.out; omega
      subst hq2
      go_wp2
      go_ret
      exact ⟨rfl, rfl⟩
end Go.Proofs.Ytdmneccfbfdloaa
