/- FnExactAmongClubs: the functions. -/
import Derived.Test.YtdmneccfbfdloaaMet
import Derived.Test.YtdmneccfbfdloaaSets
import Derived.Test.YtdmneccfbfdloaaAppR
import Derived.Test.YtdmneccfbfdloaaTourLw
namespace Go.Proofs.Ytdmneccfbfdloaa
open Go.RowKit Go.Sort

def amR (S : Nat) (r : R4) : Bool := S.testBit r.1.toNat && S.testBit r.2.1.toNat
def amL (S : Nat) (rs : List R4) : List R4 := rs.filter (amR S)
noncomputable def amOk (s : Int) (rs : List R4) (S : Int) : Bool := leagueB s rs && inB S 0 (2 ^ s.toNat - 1)
noncomputable def amS (s : Int) (rs : List R4) (S : Int) : Int := if amOk s rs S = true then s else 0
noncomputable def amRs (s : Int) (rs : List R4) (S : Int) : List R4 := if amOk s rs S = true then amL S.toNat rs else []
theorem amRs_len (s : Int) (rs : List R4) (S : Int) : (amRs s rs S).length ≤ 60 := by
  unfold amRs
  split
  · rename_i h
    unfold amOk at h
    rw [Bool.and_eq_true] at h
    exact Nat.le_trans (List.length_filter_le _ _) (leagueB_true.1 h.1).2.1
  · simp
theorem am_no {s : Int} {rs : List R4} {S : Int} (h : amOk s rs S = false) : amS s rs S = 0 ∧ amRs s rs S = [] := by simp [amS, amRs, h]
theorem am_yes {s : Int} {rs : List R4} {S : Int} (h : amOk s rs S = true) : amS s rs S = s ∧ amRs s rs S = amL S.toNat rs := by simp [amS, amRs, h]
theorem r4_mem' {rs : List R4} {k : Nat} (hk : k < rs.length) : r4At rs k ∈ rs := by
  rw [show r4At rs k = rs[k] by simp [r4At, hk]]; exact List.getElem_mem hk
set_option maxHeartbeats 1000000 in
theorem implAmong (s : Int) (sl : Value) (rs : List R4) (S : Int) (w : World) (h : RdR w sl rs) :
    Calls Try.prog 30 #[.agg #[.int .i64 s, sl], .int .i64 S] w fun e w' => ∃ sl', e = .returned (.tuple #[.agg #[.int .i64 (amS s rs S), sl'], .bool (amOk s rs S)]) ∧ OwnR w' w.heap.size sl' (amRs s rs S) ∧ Below w.heap.size w w' := by
  have HR := Lib.hid h
  obtain ⟨A, c, rfl, -, hm, hc⟩ := h
  unfold maxLen at hm
  have HC := Lib.hid hc
  clear hc
  rcases q0 : leagueB s rs with _ | _
  case false =>
    go_enter Try.func30, Try.ntmps30
    go_wp2_with fail
    have b0 := (below_alloc1 w (.cells #[.int .i64 s, .slice A rs.length c] 36)).alloc (by simp) (.cells #[.int .i64 0, .slice none 0 0] 36)
    have x0 := (TBox.new w s (.slice A rs.length c) 36).below (below_alloc1 _ (.cells #[.int .i64 0, .slice none 0 0] 36))
    have t0 := BoxF.new (w.alloc (.cells #[.int .i64 s, .slice A rs.length c] 36)) 0 (.slice none 0 0) 36
    simp only [World.size_alloc] at t0
    generalize (w.alloc (.cells #[.int .i64 s, .slice A rs.length c] 36)).alloc (.cells #[.int .i64 0, .slice none 0 0] 36) = w0 at *
    have HX0 := Lib.hid x0
    have HB0 := Lib.hid b0
    have HT0 := Lib.hid t0
    clear x0 b0 t0
    have y0_0 := HX0.out.1
    have y1_0 := HX0.out.2
    go_wp2_with fail
    refine (implLeagueOk s _ rs _ (HR.out.below HB0.out)).mono ?_
    rintro e w1 ⟨rfl, hb⟩
    have HX1 := Lib.hid (HX0.out.below hb)
    have HT1 := Lib.hid (HT0.out.below hb)
    have HB1 := Lib.hid (Below.then HB0.out hb)
    clear hb HX0 HT0 HB0 y0_0 y1_0
    have y0_1 := HX1.out.1
    have y1_1 := HX1.out.2
    rw [q0]
    have v0 := HT1.out.1.1
    have v1 := HT1.out.1.2
    have f0 := HT1.out.2 0
    have f1 := HT1.out.2 1
    have HBx := Lib.hid ((HB1.out.setCell (p := ⟨w.heap.size + 1, 0, none⟩) (by simp) (.int .i64 0)).setCell (p := ⟨w.heap.size + 1, 1, none⟩) (by simp) (.slice none 0 0))
    have R0 : Hid (((w1.setCell ⟨w.heap.size + 1, 0, none⟩ (.int .i64 0)).setCell ⟨w.heap.size + 1, 1, none⟩ (.slice none 0 0)).cell? ⟨w.heap.size + 1, 0, none⟩ = some (.int .i64 0)) := (World.cell?_setCell_other _ _ _ _ (by simp)).trans (World.cell?_setCell_same _ _ _ v0)
    have R1 : Hid (((w1.setCell ⟨w.heap.size + 1, 0, none⟩ (.int .i64 0)).setCell ⟨w.heap.size + 1, 1, none⟩ (.slice none 0 0)).cell? ⟨w.heap.size + 1, 1, none⟩ = some (.slice none 0 0)) := World.cell?_setCell_same _ _ _ ((World.cell?_setCell_other _ _ _ _ (by simp)).trans v1)
    go_wp2
    have r0 := R0.out
    have r1 := R1.out
    have hno : amOk s rs S = false := by first | (simp [amOk, q0]; done) | (simp [amOk, q1]; done)
    refine bodyPost_ret (v := .tuple #[.agg #[.int .i64 0, .slice none 0 0], .bool false]) (by simp only [results, Try.results30]; simp [go_sem, r0, r1]) rfl ⟨_, by rw [(am_no hno).1, hno], by rw [(am_no hno).2]; exact OwnR.nil_ _ _, HBx.out⟩
  have hs := (leagueB_true.1 q0).1
  have hhi := full_hi s.toNat (by omega)
  rcases q1 : inB S 0 (2 ^ s.toNat - 1) with _ | _
  case false =>
    go_enter Try.func30, Try.ntmps30
    go_wp2_with fail
    have b0 := (below_alloc1 w (.cells #[.int .i64 s, .slice A rs.length c] 36)).alloc (by simp) (.cells #[.int .i64 0, .slice none 0 0] 36)
    have x0 := (TBox.new w s (.slice A rs.length c) 36).below (below_alloc1 _ (.cells #[.int .i64 0, .slice none 0 0] 36))
    have t0 := BoxF.new (w.alloc (.cells #[.int .i64 s, .slice A rs.length c] 36)) 0 (.slice none 0 0) 36
    simp only [World.size_alloc] at t0
    generalize (w.alloc (.cells #[.int .i64 s, .slice A rs.length c] 36)).alloc (.cells #[.int .i64 0, .slice none 0 0] 36) = w0 at *
    have HX0 := Lib.hid x0
    have HB0 := Lib.hid b0
    have HT0 := Lib.hid t0
    clear x0 b0 t0
    have y0_0 := HX0.out.1
    have y1_0 := HX0.out.2
    go_wp2_with fail
    refine (implLeagueOk s _ rs _ (HR.out.below HB0.out)).mono ?_
    rintro e w1 ⟨rfl, hb⟩
    have HX1 := Lib.hid (HX0.out.below hb)
    have HT1 := Lib.hid (HT0.out.below hb)
    have HB1 := Lib.hid (Below.then HB0.out hb)
    clear hb HX0 HT0 HB0 y0_0 y1_0
    have y0_1 := HX1.out.1
    have y1_1 := HX1.out.2
    rw [q0]
    go_wp2_with fail
    refine (within_any _ _ _ _).mono ?_
    rintro e wz ⟨rfl, rfl⟩
    rw [q1]
    have v0 := HT1.out.1.1
    have v1 := HT1.out.1.2
    have f0 := HT1.out.2 0
    have f1 := HT1.out.2 1
    have HBx := Lib.hid ((HB1.out.setCell (p := ⟨w.heap.size + 1, 0, none⟩) (by simp) (.int .i64 0)).setCell (p := ⟨w.heap.size + 1, 1, none⟩) (by simp) (.slice none 0 0))
    have R0 : Hid (((w1.setCell ⟨w.heap.size + 1, 0, none⟩ (.int .i64 0)).setCell ⟨w.heap.size + 1, 1, none⟩ (.slice none 0 0)).cell? ⟨w.heap.size + 1, 0, none⟩ = some (.int .i64 0)) := (World.cell?_setCell_other _ _ _ _ (by simp)).trans (World.cell?_setCell_same _ _ _ v0)
    have R1 : Hid (((w1.setCell ⟨w.heap.size + 1, 0, none⟩ (.int .i64 0)).setCell ⟨w.heap.size + 1, 1, none⟩ (.slice none 0 0)).cell? ⟨w.heap.size + 1, 1, none⟩ = some (.slice none 0 0)) := World.cell?_setCell_same _ _ _ ((World.cell?_setCell_other _ _ _ _ (by simp)).trans v1)
    go_wp2
    have r0 := R0.out
    have r1 := R1.out
    have hno : amOk s rs S = false := by first | (simp [amOk, q0]; done) | (simp [amOk, q1]; done)
    refine bodyPost_ret (v := .tuple #[.agg #[.int .i64 0, .slice none 0 0], .bool false]) (by simp only [results, Try.results30]; simp [go_sem, r0, r1]) rfl ⟨_, by rw [(am_no hno).1, hno], by rw [(am_no hno).2]; exact OwnR.nil_ _ _, HBx.out⟩
  have hyes : amOk s rs S = true := by rw [amOk, q1, q0]; rfl
  have hS := inB_true.1 q1
  obtain ⟨N, rfl⟩ := Int.eq_ofNat_of_zero_le hS.1
  have hN : N < 256 := by have h1 := pow_le (n := s.toNat) (by omega); have e : ((2 ^ s.toNat : Nat) : Int) = 2 ^ s.toNat := (by simp); omega
  have he := am_yes hyes
  rw [he.1, he.2, hyes, show (N : Int).toNat = N from rfl]
  go_enter Try.func30, Try.ntmps30
  go_wp2_with fail
  have b0 := (below_alloc1 w (.cells #[.int .i64 s, .slice A rs.length c] 36)).alloc (by simp) (.cells #[.int .i64 0, .slice none 0 0] 36)
  have x0 := (TBox.new w s (.slice A rs.length c) 36).below (below_alloc1 _ (.cells #[.int .i64 0, .slice none 0 0] 36))
  have t0 := BoxF.new (w.alloc (.cells #[.int .i64 s, .slice A rs.length c] 36)) 0 (.slice none 0 0) 36
  simp only [World.size_alloc] at t0
  generalize (w.alloc (.cells #[.int .i64 s, .slice A rs.length c] 36)).alloc (.cells #[.int .i64 0, .slice none 0 0] 36) = w0 at *
  have HX0 := Lib.hid x0
  have HB0 := Lib.hid b0
  have HT0 := Lib.hid t0
  clear x0 b0 t0
  have y0_0 := HX0.out.1
  have y1_0 := HX0.out.2
  go_wp2_with fail
  refine (implLeagueOk s _ rs _ (HR.out.below HB0.out)).mono ?_
  rintro e w1 ⟨rfl, hb⟩
  have HX1 := Lib.hid (HX0.out.below hb)
  have HT1 := Lib.hid (HT0.out.below hb)
  have HB1 := Lib.hid (Below.then HB0.out hb)
  clear hb HX0 HT0 HB0 y0_0 y1_0
  have y0_1 := HX1.out.1
  have y1_1 := HX1.out.2
  rw [q0]
  go_wp2_with fail
  refine (within_any _ _ _ _).mono ?_
  rintro e wz ⟨rfl, rfl⟩
  rw [q1]
  have hsz1 := HB1.out.size
  have hgt1 := HT1.out.gt
  have y1' := (HX1.out.below (below_alloc1 w1 (.cells #[.int .i64 s, .slice none 0 0] 36))).2
  generalize hn : rs.length = n at *
  have HN := Lib.hid hn
  clear hn
  go_wp2
  have HB3 := Lib.hid (HB1.out.alloc hsz1 (.cells #[.int .i64 s, .slice none 0 0] 36))
  have HT2 := Lib.hid (BoxF.new w1 s (.slice none 0 0) 36)
  have HTB := Lib.hid (HT1.out.below (below_alloc1 w1 (.cells #[.int .i64 s, .slice none 0 0] 36)))
  generalize w1.alloc (.cells #[.int .i64 s, .slice none 0 0] 36) = w3 at *
  generalize hg1 : w.heap.size + 1 = g1 at *
  generalize hg2 : w1.heap.size = g2 at *
  have HV := Lib.hid (fun r hr => resB_true.1 ((leagueB_true.1 q0).2.2 r hr))
  have h60 := (leagueB_true.1 q0).2.1
  rw [HN.out] at h60
  have HG : Hid (g1 = w.heap.size + 1 ∧ g1 + 1 ≤ g2) := by unfold Hid; omega
  clear hg1 hg2 q0 q1 hyes he hhi y1' y0_1 y1_1 HT1 HB1 HX1 hS
  go_loopw [28] (fun i wr => ∃ (k : Nat) (V : Value), k ≤ n ∧ i = .int .i64 k ∧ OwnR wr (g2 + 1) V (amL N (rs.take k)) ∧ BoxF wr g2 s V ∧ BoxF wr g1 0 (.slice none 0 0) ∧ Below w.heap.size w wr) (fun i _ => n - (intOf i).toNat)
  case atStart => exact ⟨0, _, by omega, rfl, by simpa [amL] using OwnR.nil_ _ _, HT2.out, HTB.out, HB3.out⟩
  case round =>
    obtain ⟨k, V, hk, rfl, hown, hx2, hx1, hb⟩ := hrel
    by_cases hlt : k < n
    · obtain ⟨g, off, rfl, hbb, hr⟩ := HC.out (by omega)
      obtain ⟨x0, x1, x2, x3⟩ := (hr k hlt).keep (w' := wr) (fun p hp => hb.cell (by rw [hp]; exact hbb))
      have hq := HV.out _ (r4_mem' (by rw [HN.out]; exact hlt : k < rs.length))
      obtain ⟨a, hha⟩ := Int.eq_ofNat_of_zero_le hq.1.1
      obtain ⟨b, hhb⟩ := Int.eq_ofNat_of_zero_le hq.2.1.1
      have ha8 : a < 8 := by omega
      have hb8 : b < 8 := by omega
      have HST : Hid (amL N (rs.take (k + 1)) = amL N (rs.take k) ++ if (N.testBit a && N.testBit b) = true then [r4At rs k] else []) := by
        have e : amR N (r4At rs k) = (N.testBit a && N.testBit b) := by unfold amR; rw [hha, hhb]; rfl
        unfold Hid amL
        rw [take_snocR (by rw [HN.out]; exact hlt), List.filter_append, ← e]
        congr 1
        rcases h : amR N (r4At rs k) with _ | _ <;> simp [List.filter_cons, h]
      have hb0 := below_alloc1 wr (.cells #[.int .i64 (r4At rs k).1, .int .i64 (r4At rs k).2.1, .int .i64 (r4At rs k).2.2.1, .int .i64 (r4At rs k).2.2.2] 52)
      have hlen : (amL N (rs.take k)).length ≤ 60 := by
        refine Nat.le_trans (List.length_filter_le _ _) ?_
        rw [List.length_take]; omega
      have O1 := hown.below hb0
      have X2 := hx2.below hb0
      have X1 := hx1.below hb0
      have B1 := Below.then hb hb0
      have bt1 := bit_test N a
      have bt2 := bit_test N b
      clear hr hq hb0 hown hx2 hx1 hb
      generalize r4At rs k = q at *
      obtain ⟨qa, qb, qc, qd⟩ := q
      simp only at hha hhb
      subst hha hhb
      generalize amL N (rs.take k) = X at *
      obtain ⟨Y, cy, rfl, hcy, hly, -⟩ := O1.form
      unfold maxLen at hcy
      have y2 := X2.1.2
      have hgs := X2.gt
      have h12 : g1 < g2 := by have := HG.out.2; omega
      have hw1 : w.heap.size < g1 := by have := HG.out.1; omega
      have N2 := nb_ne (own_ne (g := g2) (fun k hk => (O1.lt k hk).1) (by omega))
      have N1 := nb_ne (own_ne (g := g1) (fun k hk => (O1.lt k hk).1) (by omega))
      have HO1 := Lib.hid O1
      have HX2 := Lib.hid X2
      have HX1 := Lib.hid X1
      have HB1 := Lib.hid B1
      have HN2 := Lib.hid N2
      have HN1 := Lib.hid N1
      clear O1 X2 X1 B1 N1 N2
      rcases q1 : N.testBit a with _ | _
      · rw [q1] at bt1 HST
        go_wp2
        go_roundw
        case rel => exact ⟨k + 1, _, by omega, by go_num, by rw [HST.out]; simpa using HO1.out, HX2.out, HX1.out, HB1.out⟩
        case measure => simp [intOf]; omega
      · rw [q1] at bt1 HST
        rcases q2 : N.testBit b with _ | _
        · rw [q2] at bt2 HST
          go_wp2
          go_roundw
          case rel => exact ⟨k + 1, _, by omega, by go_num, by rw [HST.out]; simpa using HO1.out, HX2.out, HX1.out, HB1.out⟩
          case measure => simp [intOf]; omega
        · rw [q2] at bt2 HST
          go_wp2_with (at_builtin; refine wp_append1R _ rfl (.tmp 47) (.tmp 49) rfl (g2 + 1) _ _ ((a : Int), (b : Int), qc, qd) rfl HO1.out (by simp [Act.eval]) (by omega) (by exact hgs) ?_; intro v' w5 hown5 hg5; obtain ⟨Y5, c5, rfl, -, -, -⟩ := hown5.form; have X25 := HX2.out.kept hg5 HN2.out; have X15 := HX1.out.kept hg5 HN1.out; have B5 := below_appendR HB1.out hg5 HO1.out (by omega) (by exact hgs); have z2 := X25.1.2; have z3 := X25.2 1; have HO5 := Lib.hid hown5; have HX5 := Lib.hid X25; have HX6 := Lib.hid X15; have HB5 := Lib.hid B5; clear hown5 hg5 X25 X15 B5)
          go_roundw
          case rel =>
            have hO := HO5.out.kept (setCell_grown _ ⟨g2, 1, none⟩ (.slice Y5 (X.length + 1) c5)) (own_ne (fun k hk => (HO5.out.lt k hk).1) (by simp))
            have hX := HX5.out.set1 (.slice Y5 (X.length + 1) c5)
            simp only [List.length_append, List.length_singleton] at hO
            refine ⟨k + 1, _, by omega, by go_num, ?_, hX, HX6.out.kept (setCell_grown _ ⟨g2, 1, none⟩ _) (by simp; omega), HB5.out.setCell (p := ⟨g2, 1, none⟩) (by show w.heap.size ≤ g2; omega) _⟩
            rw [HST.out]
            exact hO
          case measure => simp [intOf]; omega
    · obtain rfl : k = n := by omega
      have h12 : g1 < g2 := by have := HG.out.2; omega
      have hw1 : w.heap.size < g1 := by have := HG.out.1; omega
      rw [show rs.take k = rs from List.take_of_length_le (by rw [HN.out]; exact Nat.le_refl _)] at hown
      obtain ⟨Y, cy, rfl, hcy, hly, -⟩ := hown.form
      have u0 := hx2.1.1
      have u1 := hx2.1.2
      have v0 := hx1.1.1
      have v1 := hx1.1.2
      have f0 := hx1.2 0
      have f1 := hx1.2 1
      have hne : g2 ≠ g1 := by omega
      have HO := Lib.hid ((hown.kept (setCell_grown _ ⟨g1, 0, none⟩ (.int .i64 s)) (own_ne (fun k hk => (hown.lt k hk).1) (by simp; omega))).kept (setCell_grown _ ⟨g1, 1, none⟩ (.slice Y (amL N rs).length cy)) (own_ne (fun k hk => (hown.lt k hk).1) (by simp; omega)))
      have HB := Lib.hid ((hb.setCell (p := ⟨g1, 0, none⟩) (by show w.heap.size ≤ g1; omega) (.int .i64 s)).setCell (p := ⟨g1, 1, none⟩) (by show w.heap.size ≤ g1; omega) (.slice Y (amL N rs).length cy))
      have r0 : ((wr.setCell ⟨g1, 0, none⟩ (.int .i64 s)).setCell ⟨g1, 1, none⟩ (.slice Y (amL N rs).length cy)).cell? ⟨g1, 0, none⟩ = some (.int .i64 s) := (World.cell?_setCell_other _ _ _ _ (by simp)).trans (World.cell?_setCell_same _ _ _ v0)
      have r1 : ((wr.setCell ⟨g1, 0, none⟩ (.int .i64 s)).setCell ⟨g1, 1, none⟩ (.slice Y (amL N rs).length cy)).cell? ⟨g1, 1, none⟩ = some (.slice Y (amL N rs).length cy) := World.cell?_setCell_same _ _ _ ((World.cell?_setCell_other _ _ _ _ (by simp)).trans v1)
      have R0 := Lib.hid r0
      have R1 := Lib.hid r1
      clear r0 r1
      go_wp2
      have r0 := R0.out
      have r1 := R1.out
      refine bodyPost_ret (v := .tuple #[.agg #[.int .i64 s, .slice Y (amL N rs).length cy], .bool true]) (by simp only [results, Try.results30]; simp [go_sem, r0, r1]) rfl ⟨_, rfl, HO.out.mono (by omega), HB.out⟩
end Go.Proofs.Ytdmneccfbfdloaa
