/- FnExactAddResult: the functions. -/
import Derived.Test.YtdmneccfbfdloaaResC
import Derived.Test.YtdmneccfbfdloaaTourLw
namespace Go.Proofs.Ytdmneccfbfdloaa
open Go.RowKit Go.Sort
set_option maxRecDepth 100000
noncomputable def withV (s : Int) (sl : Value) (rs : List R4) : Value := if leagueB s rs = true then .agg #[.int .i64 s, sl] else .agg #[.int .i64 0, .slice none 0 0]
set_option maxHeartbeats 1000000 in
theorem withR_any (s : Int) (sl0 sl : Value) (rs : List R4) (w : World) (h : RdR w sl rs) :
    Calls Try.prog 55 #[.agg #[.int .i64 s, sl0], sl] w fun e w' => e = .returned (.tuple #[withV s sl rs, .bool (leagueB s rs)]) ∧ Below w.heap.size w w' := by
  have HR := Lib.hid h
  obtain ⟨A, c, rfl, -, -, -⟩ := h
  rcases q : leagueB s rs with _ | _
  all_goals
    go_enter Try.func55, Try.ntmps55
    go_wp2_with fail
    have b0 := (below_alloc1 w (.cells #[.int .i64 s, sl0] 36)).alloc (by simp) (.cells #[.int .i64 0, .slice none 0 0] 36)
    have t0 := BoxF.new (w.alloc (.cells #[.int .i64 s, sl0] 36)) 0 (.slice none 0 0) 36
    simp only [World.size_alloc] at t0
    have hsz : ((w.alloc (.cells #[.int .i64 s, sl0] 36)).alloc (.cells #[.int .i64 0, .slice none 0 0] 36)).heap.size = w.heap.size + 1 + 1 := by simp
    have hxx := ((TBox.new w s sl0 36).below (below_alloc1 _ (.cells #[.int .i64 0, .slice none 0 0] 36)))
    generalize ((w.alloc (.cells #[.int .i64 s, sl0] 36)).alloc (.cells #[.int .i64 0, .slice none 0 0] 36)) = w0 at *
    have HB1 := Lib.hid (b0.alloc b0.size (.cells #[.int .i64 s, .slice A rs.length c] 36))
    have HT1 := Lib.hid (t0.below (below_alloc1 w0 (.cells #[.int .i64 s, .slice A rs.length c] 36)))
    have hu1 := TBox.new w0 s (.slice A rs.length c) 36
    rw [hsz] at hu1
    have HU1 := Lib.hid hu1
    have y0 := hu1.1
    have y1 := hu1.2
    have x0 := hxx.1
    have x1 := hxx.2
    clear b0 t0 hu1 hsz
    go_wp2_with fail
    refine (implLeagueOk s _ rs _ (HR.out.below HB1.out)).mono ?_
    rintro e w2 ⟨rfl, hb2⟩
    rw [q]
    have HB2 := Lib.hid (Below.then HB1.out hb2)
    have HT2 := Lib.hid (HT1.out.below hb2)
    have HU2 := Lib.hid (HU1.out.below hb2)
    clear hb2 y0 y1 x0 x1 hxx
    have y0 := HU2.out.1
    have y1 := HU2.out.2
    have v0 := HT2.out.1.1
    have v1 := HT2.out.1.2
    have f0 := HT2.out.2 0
    have f1 := HT2.out.2 1
  · skip
    have HBx := Lib.hid ((HB2.out.setCell (p := ⟨w.heap.size + 1, 0, none⟩) (by simp) (.int .i64 0)).setCell (p := ⟨w.heap.size + 1, 1, none⟩) (by simp) (.slice none 0 0))
    have R0 : Hid (((w2.setCell ⟨w.heap.size + 1, 0, none⟩ (.int .i64 0)).setCell ⟨w.heap.size + 1, 1, none⟩ (.slice none 0 0)).cell? ⟨w.heap.size + 1, 0, none⟩ = some (.int .i64 0)) := (World.cell?_setCell_other _ _ _ _ (by simp)).trans (World.cell?_setCell_same _ _ _ v0)
    have R1 : Hid (((w2.setCell ⟨w.heap.size + 1, 0, none⟩ (.int .i64 0)).setCell ⟨w.heap.size + 1, 1, none⟩ (.slice none 0 0)).cell? ⟨w.heap.size + 1, 1, none⟩ = some (.slice none 0 0)) := World.cell?_setCell_same _ _ _ ((World.cell?_setCell_other _ _ _ _ (by simp)).trans v1)
    go_wp2
    have r0 := R0.out
    have r1 := R1.out
    refine bodyPost_ret (v := .tuple #[.agg #[.int .i64 0, .slice none 0 0], .bool false]) (by simp only [results, Try.results55]; simp [go_sem, r0, r1]) rfl ⟨by simp [withV, q], HBx.out⟩
  · skip
    have HBx := Lib.hid ((HB2.out.setCell (p := ⟨w.heap.size + 1, 0, none⟩) (by simp) (.int .i64 s)).setCell (p := ⟨w.heap.size + 1, 1, none⟩) (by simp) (.slice A rs.length c))
    have R0 : Hid (((w2.setCell ⟨w.heap.size + 1, 0, none⟩ (.int .i64 s)).setCell ⟨w.heap.size + 1, 1, none⟩ (.slice A rs.length c)).cell? ⟨w.heap.size + 1, 0, none⟩ = some (.int .i64 s)) := (World.cell?_setCell_other _ _ _ _ (by simp)).trans (World.cell?_setCell_same _ _ _ v0)
    have R1 : Hid (((w2.setCell ⟨w.heap.size + 1, 0, none⟩ (.int .i64 s)).setCell ⟨w.heap.size + 1, 1, none⟩ (.slice A rs.length c)).cell? ⟨w.heap.size + 1, 1, none⟩ = some (.slice A rs.length c)) := World.cell?_setCell_same _ _ _ ((World.cell?_setCell_other _ _ _ _ (by simp)).trans v1)
    go_wp2
    have r0 := R0.out
    have r1 := R1.out
    refine bodyPost_ret (v := .tuple #[.agg #[.int .i64 s, .slice A rs.length c], .bool true]) (by simp only [results, Try.results55]; simp [go_sem, r0, r1]) rfl ⟨by simp [withV, q], HBx.out⟩
noncomputable def adOk (s : Int) (rs : List R4) (r : R4) : Bool := leagueB s rs && leagueB s (rs ++ [r])
noncomputable def adS (s : Int) (rs : List R4) (r : R4) : Int := if adOk s rs r = true then s else 0
noncomputable def adRs (s : Int) (rs : List R4) (r : R4) : List R4 := if adOk s rs r = true then rs ++ [r] else []
theorem ad_no {s : Int} {rs : List R4} {r : R4} (h : adOk s rs r = false) : adS s rs r = 0 ∧ adRs s rs r = [] := by simp [adS, adRs, h]
theorem ad_yes {s : Int} {rs : List R4} {r : R4} (h : adOk s rs r = true) : adS s rs r = s ∧ adRs s rs r = rs ++ [r] := by simp [adS, adRs, h]
theorem adRs_len (s : Int) (rs : List R4) (r : R4) : (adRs s rs r).length ≤ 60 := by
  unfold adRs
  split
  · rename_i h
    unfold adOk at h
    rw [Bool.and_eq_true] at h
    exact (leagueB_true.1 h.2).2.1
  · simp
theorem withR_yes (s : Int) (sl0 sl : Value) (rs : List R4) (w : World) (h : RdR w sl rs) (q : leagueB s rs = true) :
    Calls Try.prog 55 #[.agg #[.int .i64 s, sl0], sl] w fun e w' => e = .returned (.tuple #[.agg #[.int .i64 s, sl], .bool true]) ∧ Below w.heap.size w w' :=
  (withR_any s sl0 sl rs w h).mono fun e w' ⟨h1, h2⟩ => ⟨by rw [h1, withV, if_pos q, q], h2⟩
theorem withR_no (s : Int) (sl0 sl : Value) (rs : List R4) (w : World) (h : RdR w sl rs) (q : leagueB s rs = false) :
    Calls Try.prog 55 #[.agg #[.int .i64 s, sl0], sl] w fun e w' => e = .returned (.tuple #[.agg #[.int .i64 0, .slice none 0 0], .bool false]) ∧ Below w.heap.size w w' :=
  (withR_any s sl0 sl rs w h).mono fun e w' ⟨h1, h2⟩ => ⟨by rw [h1, withV, if_neg (by rw [q]; simp), q], h2⟩
theorem four_kept {w w' : World} {b o : Nat} {r : R4} {row : Option Nat} (h : Four w b o r) (hg : w.grownBy w' row) (hne : some b ≠ row) : Four w' b o r :=
  h.keep fun p hp => World.cell?_of_block (by rw [hp]; exact hg.block b (World.block_lt_of_cell? w _ h.1) hne)
theorem four_one {w : World} {b : Nat} {r : R4} (h : Four w b 0 r) : ∀ j u, (flat4 [r])[j]? = some u → w.cell? ((⟨b, 0, none⟩ : Addr).add j) = some u :=
  four_news fun k hk => by
    obtain rfl : k = 0 := by simpa using hk
    simpa [r4At] using h
theorem four_new (w : World) (r : R4) (t : TypeId) : Four (w.alloc (.cells #[.int .i64 r.1, .int .i64 r.2.1, .int .i64 r.2.2.1, .int .i64 r.2.2.2] t)) w.heap.size 0 r := ⟨by simp, by simp, by simp, by simp⟩
theorem Four.below {w w' : World} {b o : Nat} {r : R4} (h : Four w b o r) (hb : Below w.heap.size w w') : Four w' b o r := h.keep fun p hp => hb.cell (by rw [hp]; exact World.block_lt_of_cell? w _ h.1)
set_option maxHeartbeats 4000000 in
theorem implAdd (s : Int) (sl : Value) (rs : List R4) (ra rb rc rd : Int) (w : World) (h : RdR w sl rs) :
    Calls Try.prog 31 #[.agg #[.int .i64 s, sl], .agg #[.int .i64 ra, .int .i64 rb, .int .i64 rc, .int .i64 rd]] w fun e w' => ∃ sl', e = .returned (.tuple #[.agg #[.int .i64 (adS s rs (ra, rb, rc, rd)), sl'], .bool (adOk s rs (ra, rb, rc, rd))]) ∧ OwnR w' w.heap.size sl' (adRs s rs (ra, rb, rc, rd)) ∧ Below w.heap.size w w' := by
  have HR := Lib.hid h
  obtain ⟨A, c, rfl, -, -, -⟩ := h
  have b3 := ((below_alloc1 w (.cells #[.int .i64 s, .slice A rs.length c] 36)).alloc (by simp) (.cells #[.int .i64 ra, .int .i64 rb, .int .i64 rc, .int .i64 rd] 52)).alloc (by simp; omega) (.cells #[.int .i64 0, .slice none 0 0] 36)
  have x3 := ((TBox.new w s (.slice A rs.length c) 36).below (below_alloc1 _ (.cells #[.int .i64 ra, .int .i64 rb, .int .i64 rc, .int .i64 rd] 52))).below (below_alloc1 _ (.cells #[.int .i64 0, .slice none 0 0] 36))
  have q3 := (four_new (w.alloc (.cells #[.int .i64 s, .slice A rs.length c] 36)) (ra, rb, rc, rd) 52).below (below_alloc1 _ (.cells #[.int .i64 0, .slice none 0 0] 36))
  have t3 := BoxF.new ((w.alloc (.cells #[.int .i64 s, .slice A rs.length c] 36)).alloc (.cells #[.int .i64 ra, .int .i64 rb, .int .i64 rc, .int .i64 rd] 52)) 0 (.slice none 0 0) 36
  simp only [World.size_alloc] at q3 t3
  have HB0 := Lib.hid b3
  have HX0 := Lib.hid x3
  have HQ0 := Lib.hid q3
  have HT0 := Lib.hid t3
  clear b3 x3 q3 t3
  rcases q0 : leagueB s rs with _ | _
  · obtain ⟨e1, e2⟩ := ad_no (s := s) (rs := rs) (r := (ra, rb, rc, rd)) (by simp [adOk, q0])
    rw [e1, e2, show adOk s rs (ra, rb, rc, rd) = false by simp [adOk, q0]]
    go_enter Try.func31, Try.ntmps31
    go_wp2_with fail
    generalize ((w.alloc (.cells #[.int .i64 s, .slice A rs.length c] 36)).alloc (.cells #[.int .i64 ra, .int .i64 rb, .int .i64 rc, .int .i64 rd] 52)).alloc (.cells #[.int .i64 0, .slice none 0 0] 36) = w0 at *
    have y0 := HX0.out.1
    have y1 := HX0.out.2
    go_wp2_with fail
    refine (implLeagueOk s _ rs _ (HR.out.below HB0.out)).mono ?_
    rintro e w1 ⟨rfl, hb1⟩
    rw [q0]
    have HB1 := Lib.hid (Below.then HB0.out hb1)
    have HT1 := Lib.hid (HT0.out.below hb1)
    have v0 := HT1.out.1.1
    have v1 := HT1.out.1.2
    have f0 := HT1.out.2 0
    have f1 := HT1.out.2 1
    have HBx := Lib.hid ((HB1.out.setCell (p := ⟨w.heap.size + 1 + 1, 0, none⟩) (show w.heap.size ≤ w.heap.size + 1 + 1 by omega) (.int .i64 0)).setCell (p := ⟨w.heap.size + 1 + 1, 1, none⟩) (show w.heap.size ≤ w.heap.size + 1 + 1 by omega) (.slice none 0 0))
    have R0 : Hid (((w1.setCell ⟨w.heap.size + 1 + 1, 0, none⟩ (.int .i64 0)).setCell ⟨w.heap.size + 1 + 1, 1, none⟩ (.slice none 0 0)).cell? ⟨w.heap.size + 1 + 1, 0, none⟩ = some (.int .i64 0)) := (World.cell?_setCell_other _ _ _ _ (by simp)).trans (World.cell?_setCell_same _ _ _ v0)
    have R1 : Hid (((w1.setCell ⟨w.heap.size + 1 + 1, 0, none⟩ (.int .i64 0)).setCell ⟨w.heap.size + 1 + 1, 1, none⟩ (.slice none 0 0)).cell? ⟨w.heap.size + 1 + 1, 1, none⟩ = some (.slice none 0 0)) := World.cell?_setCell_same _ _ _ ((World.cell?_setCell_other _ _ _ _ (by simp)).trans v1)
    go_wp2
    have r0 := R0.out
    have r1 := R1.out
    refine bodyPost_ret (v := .tuple #[.agg #[.int .i64 0, .slice none 0 0], .bool false]) (by simp only [results, Try.results31]; simp [go_sem, r0, r1]) rfl ⟨_, rfl, OwnR.nil_ _ _, HBx.out⟩
  have h60 := (leagueB_true.1 q0).2.1
  rcases qn : leagueB s (rs ++ [(ra, rb, rc, rd)]) with _ | _
  all_goals
    go_enter Try.func31, Try.ntmps31
    go_wp2_with fail
    generalize ((w.alloc (.cells #[.int .i64 s, .slice A rs.length c] 36)).alloc (.cells #[.int .i64 ra, .int .i64 rb, .int .i64 rc, .int .i64 rd] 52)).alloc (.cells #[.int .i64 0, .slice none 0 0] 36) = w0 at *
    have y0 := HX0.out.1
    have y1 := HX0.out.2
    go_wp2_with fail
    refine (implLeagueOk s _ rs _ (HR.out.below HB0.out)).mono ?_
    rintro e w1 ⟨rfl, hb1⟩
    rw [q0]
    have HB1 := Lib.hid (Below.then HB0.out hb1)
    have HX1 := Lib.hid (HX0.out.below hb1)
    have HQ1 := Lib.hid (HQ0.out.below hb1)
    have HT1 := Lib.hid (HT0.out.below hb1)
    clear y0 y1 hb1 HB0 HX0 HQ0 HT0
  · skip
    obtain ⟨e1, e2⟩ := ad_no (s := s) (rs := rs) (r := (ra, rb, rc, rd)) (by simp [adOk, q0, qn])
    have HE := Lib.hid (And.intro e1 (And.intro e2 (show adOk s rs (ra, rb, rc, rd) = false by simp [adOk, q0, qn])))
    clear e1 e2
    have HBD := Lib.hid (show Below w.heap.size w w1.drew from HB1.out.drew)
    have HXD := Lib.hid (show TBox w1.drew w.heap.size s (.slice A rs.length c) from HX1.out)
    have HQD := Lib.hid (show Four w1.drew (w.heap.size + 1) 0 (ra, rb, rc, rd) from HQ1.out)
    have HTD := Lib.hid (show BoxF w1.drew (w.heap.size + 1 + 1) 0 (.slice none 0 0) from HT1.out)
    have bA := below_alloc1 w1.drew (.cells #[.int .i64 ra, .int .i64 rb, .int .i64 rc, .int .i64 rd] 52)
    have HBA := Lib.hid (Below.then HBD.out bA)
    have HXA := Lib.hid (HXD.out.below bA)
    have HQA := Lib.hid (HQD.out.below bA)
    have HTA := Lib.hid (HTD.out.below bA)
    have HRA := Lib.hid (show Four (w1.drew.alloc (.cells #[.int .i64 ra, .int .i64 rb, .int .i64 rc, .int .i64 rd] 52)) w1.heap.size 0 (ra, rb, rc, rd) from four_new w1.drew (ra, rb, rc, rd) 52)
    have hsA : w1.heap.size ≤ (w1.drew.alloc (.cells #[.int .i64 ra, .int .i64 rb, .int .i64 rc, .int .i64 rd] 52)).heap.size := by simp
    clear bA
    have ya_1 := HX1.out.1
    have yb_1 := HX1.out.2
    have yc_1 := HQ1.out.1
    have yd_1 := HQ1.out.2.1
    have ye_1 := HQ1.out.2.2.1
    have yf_1 := HQ1.out.2.2.2
    have ya_d := HXD.out.1
    have yb_d := HXD.out.2
    have yc_d := HQD.out.1
    have yd_d := HQD.out.2.1
    have ye_d := HQD.out.2.2.1
    have yf_d := HQD.out.2.2.2
    have ya_a := HXA.out.1
    have yb_a := HXA.out.2
    have yc_a := HQA.out.1
    have yd_a := HQA.out.2.1
    have ye_a := HQA.out.2.2.1
    have yf_a := HQA.out.2.2.2
    have hgt := HT1.out.gt
    have hl1 : rs.length + 1 ≤ 1099511627776 := by omega
    have HRLN : Hid ((rs ++ [(ra, rb, rc, rd)]).length = rs.length + 1) := by unfold Hid; simp
    go_wp2_with fail
    go_region_held3 (fun W => W.cell? ⟨w.heap.size, 0, none⟩ = some (.int .i64 s) ∧ W.cell? ⟨w.heap.size, 1, none⟩ = some (.slice A rs.length c) ∧ W.cell? ⟨w.heap.size + 1, 0, none⟩ = some (.int .i64 ra) ∧ W.cell? ⟨w.heap.size + 1, 1, none⟩ = some (.int .i64 rb) ∧ W.cell? ⟨w.heap.size + 1, 2, none⟩ = some (.int .i64 rc) ∧ W.cell? ⟨w.heap.size + 1, 3, none⟩ = some (.int .i64 rd))
      (first | exact ⟨ya_1, yb_1, yc_1, yd_1, ye_1, yf_1⟩ | exact ⟨ya_d, yb_d, yc_d, yd_d, ye_d, yf_d⟩ | exact ⟨ya_a, yb_a, yc_a, yd_a, ye_a, yf_a⟩ | exact ⟨ya_2, yb_2, yc_2, yd_2, ye_2, yf_2⟩ | exact ⟨ya_2r, yb_2r, yc_2r, yd_2r, ye_2r, yf_2r⟩ | exact ⟨ya_4, yb_4, yc_4, yd_4, ye_4, yf_4⟩ | exact ⟨ya_5, yb_5, yc_5, yd_5, ye_5, yf_5⟩ | exact ⟨ya_6, yb_6, yc_6, yd_6, ye_6, yf_6⟩)
      (first
    | (go_at_call 56; refine (cloneR_any (.slice A rs.length c) rs w1.drew (HR.out.below HBD.out) (by omega)).mono ?_; rintro e w2 ⟨v2, rfl, ho2, hb2⟩; have HB2 := Lib.hid (Below.then HBD.out hb2); have HX2 := Lib.hid (HXD.out.below hb2); have HQ2 := Lib.hid (HQD.out.below hb2); have HT2 := Lib.hid (HTD.out.below hb2); have hs2 := hb2.size; have HO2 := Lib.hid (show OwnR w2 w1.heap.size v2 rs from ho2.mono (by simp)); have HSZ2 : Hid (w1.heap.size ≤ w2.heap.size) := Nat.le_trans (by simp) hb2.size; have ya_2 := HX2.out.1; have yb_2 := HX2.out.2; have yc_2 := HQ2.out.1; have yd_2 := HQ2.out.2.1; have ye_2 := HQ2.out.2.2.1; have yf_2 := HQ2.out.2.2.2; have bR := below_alloc1 w2 (.cells #[.int .i64 ra, .int .i64 rb, .int .i64 rc, .int .i64 rd] 52); have HB2r := Lib.hid (Below.then HB2.out bR); have HX2r := Lib.hid (HX2.out.below bR); have HQ2r := Lib.hid (HQ2.out.below bR); have HT2r := Lib.hid (HT2.out.below bR); have HO2r := Lib.hid (show OwnR (w2.alloc (.cells #[.int .i64 ra, .int .i64 rb, .int .i64 rc, .int .i64 rd] 52)) w1.heap.size v2 rs from World.ownsRow.alloc HO2.out _); have HR2r := Lib.hid (show Four (w2.alloc (.cells #[.int .i64 ra, .int .i64 rb, .int .i64 rc, .int .i64 rd] 52)) w2.heap.size 0 (ra, rb, rc, rd) from four_new w2 (ra, rb, rc, rd) 52); have HSZ2r : Hid (w1.heap.size ≤ (w2.alloc (.cells #[.int .i64 ra, .int .i64 rb, .int .i64 rc, .int .i64 rd] 52)).heap.size) := Nat.le_trans HSZ2.out bR.size; have ya_2r := HX2r.out.1; have yb_2r := HX2r.out.2; have yc_2r := HQ2r.out.1; have yd_2r := HQ2r.out.2.1; have ye_2r := HQ2r.out.2.2.1; have yf_2r := HQ2r.out.2.2.2; clear bR; clear ho2 hb2 hs2)
    | (go_at_call 56; refine (cloneR_any (.slice A rs.length c) rs (w1.drew.alloc (.cells #[.int .i64 ra, .int .i64 rb, .int .i64 rc, .int .i64 rd] 52)) (HR.out.below HBA.out) (by omega)).mono ?_; rintro e w2 ⟨v2, rfl, ho2, hb2⟩; have HB2 := Lib.hid (Below.then HBA.out hb2); have HX2 := Lib.hid (HXA.out.below hb2); have HQ2 := Lib.hid (HQA.out.below hb2); have HT2 := Lib.hid (HTA.out.below hb2); have hs2 := hb2.size; have HO2 := Lib.hid (show OwnR w2 w1.heap.size v2 rs from ho2.mono (by simp)); have HSZ2 : Hid (w1.heap.size ≤ w2.heap.size) := Nat.le_trans (by simp) hb2.size; have ya_2 := HX2.out.1; have yb_2 := HX2.out.2; have yc_2 := HQ2.out.1; have yd_2 := HQ2.out.2.1; have ye_2 := HQ2.out.2.2.1; have yf_2 := HQ2.out.2.2.2; have HR2 := Lib.hid (HRA.out.below hb2); clear ho2 hb2 hs2)
    | (go_at_call 55; refine (withR_no s _ _ (rs ++ [(ra, rb, rc, rd)]) w4 HO4.out.rd qn).mono ?_; rintro e w5 ⟨rfl, hb5⟩; have HB5 := Lib.hid (Below.then HB4.out hb5); have HX5 := Lib.hid (HX4.out.below hb5); have HQ5 := Lib.hid (HQ4.out.below hb5); have HT5 := Lib.hid (HT4.out.below hb5); have HO5 := Lib.hid (HO4.out.below hb5); have ya_5 := HX5.out.1; have yb_5 := HX5.out.2; have yc_5 := HQ5.out.1; have yd_5 := HQ5.out.2.1; have ye_5 := HQ5.out.2.2.1; have yf_5 := HQ5.out.2.2.2; have v0 := HT5.out.1.1; have v1 := HT5.out.1.2; have f0 := HT5.out.2 0; have f1 := HT5.out.2 1; have HX6 := Lib.hid ((HX5.out.kept (setCell_grown _ ⟨w.heap.size + 1 + 1, 0, none⟩ (.int .i64 0)) (by simp; omega)).kept (setCell_grown _ ⟨w.heap.size + 1 + 1, 1, none⟩ (.slice none 0 0)) (by simp; omega)); have HQ6 := Lib.hid (four_kept (four_kept HQ5.out (setCell_grown _ ⟨w.heap.size + 1 + 1, 0, none⟩ (.int .i64 0)) (by simp)) (setCell_grown _ ⟨w.heap.size + 1 + 1, 1, none⟩ (.slice none 0 0)) (by simp)); have ya_6 := HX6.out.1; have yb_6 := HX6.out.2; have yc_6 := HQ6.out.1; have yd_6 := HQ6.out.2.1; have ye_6 := HQ6.out.2.2.1; have yf_6 := HQ6.out.2.2.2; clear hb5)
    | (refine step_appendR (w2.alloc (.cells #[.int .i64 ra, .int .i64 rb, .int .i64 rc, .int .i64 rd] 52)) rfl (.tmp 13) (.tmp 15) rfl w1.heap.size v2 rs [(ra, rb, rc, rd)] 1 rfl ⟨_, 0, none⟩ 1 (by simp [Act.eval]) HO2r.out (by simp [Act.eval]) (four_one HR2r.out) hl1 HSZ2r.out ?_; intro v4 w4 ho4 hg4; have HB4 := Lib.hid (HB2r.out.grown hg4 HB2r.out.size (fun k hk => Nat.le_trans HB1.out.size (HO2r.out.lt k hk).1)); have HX4 := Lib.hid (HX2r.out.kept hg4 (nb_ne (own_ne (fun k hk => (HO2r.out.lt k hk).1) (by omega)))); have HQ4 := Lib.hid (four_kept HQ2r.out hg4 (nb_ne (own_ne (fun k hk => (HO2r.out.lt k hk).1) (by omega)))); have HT4 := Lib.hid (HT2r.out.kept hg4 (nb_ne (own_ne (fun k hk => (HO2r.out.lt k hk).1) (by omega)))); obtain ⟨Y4, c4, e4, -, -, -⟩ := ho4.form; rw [HRLN.out] at e4; subst e4; have HO4 := Lib.hid ho4; have ya_4 := HX4.out.1; have yb_4 := HX4.out.2; have yc_4 := HQ4.out.1; have yd_4 := HQ4.out.2.1; have ye_4 := HQ4.out.2.2.1; have yf_4 := HQ4.out.2.2.2; clear ho4 hg4)
    | (refine step_appendR w2 rfl (.tmp 13) (.tmp 15) rfl w1.heap.size v2 rs [(ra, rb, rc, rd)] 1 rfl ⟨_, 0, none⟩ 1 (by simp [Act.eval]) HO2.out (by simp [Act.eval]) (four_one HR2.out) hl1 HSZ2.out ?_; intro v4 w4 ho4 hg4; have HB4 := Lib.hid (HB2.out.grown hg4 HB2.out.size (fun k hk => Nat.le_trans HB1.out.size (HO2.out.lt k hk).1)); have HX4 := Lib.hid (HX2.out.kept hg4 (nb_ne (own_ne (fun k hk => (HO2.out.lt k hk).1) (by omega)))); have HQ4 := Lib.hid (four_kept HQ2.out hg4 (nb_ne (own_ne (fun k hk => (HO2.out.lt k hk).1) (by omega)))); have HT4 := Lib.hid (HT2.out.kept hg4 (nb_ne (own_ne (fun k hk => (HO2.out.lt k hk).1) (by omega)))); obtain ⟨Y4, c4, e4, -, -, -⟩ := ho4.form; rw [HRLN.out] at e4; subst e4; have HO4 := Lib.hid ho4; have ya_4 := HX4.out.1; have yb_4 := HX4.out.2; have yc_4 := HQ4.out.1; have yd_4 := HQ4.out.2.1; have ye_4 := HQ4.out.2.2.1; have yf_4 := HQ4.out.2.2.2; clear ho4 hg4))
    all_goals
      have HBx := Lib.hid ((HB5.out.setCell (p := ⟨w.heap.size + 1 + 1, 0, none⟩) (show w.heap.size ≤ w.heap.size + 1 + 1 by omega) (.int .i64 0)).setCell (p := ⟨w.heap.size + 1 + 1, 1, none⟩) (show w.heap.size ≤ w.heap.size + 1 + 1 by omega) (.slice none 0 0))
      have R0 : Hid (((w5.setCell ⟨w.heap.size + 1 + 1, 0, none⟩ (.int .i64 0)).setCell ⟨w.heap.size + 1 + 1, 1, none⟩ (.slice none 0 0)).cell? ⟨w.heap.size + 1 + 1, 0, none⟩ = some (.int .i64 0)) := (World.cell?_setCell_other _ _ _ _ (by simp)).trans (World.cell?_setCell_same _ _ _ v0)
      have R1 : Hid (((w5.setCell ⟨w.heap.size + 1 + 1, 0, none⟩ (.int .i64 0)).setCell ⟨w.heap.size + 1 + 1, 1, none⟩ (.slice none 0 0)).cell? ⟨w.heap.size + 1 + 1, 1, none⟩ = some (.slice none 0 0)) := World.cell?_setCell_same _ _ _ ((World.cell?_setCell_other _ _ _ _ (by simp)).trans v1)
      have hv1 := HB1.out.size
      clear HB5 HX5 HQ5 HT5 HX6 HQ6 HB4 HX4 HQ4 HT4 HB2 HX2 HQ2 HT2
      go_wp2
      have r0 := R0.out
      have r1 := R1.out
      refine bodyPost_ret (v := .tuple #[.agg #[.int .i64 0, .slice none 0 0], .bool false]) (by simp only [results, Try.results31]; simp [go_sem, r0, r1]) rfl ⟨.slice none 0 0, by rw [HE.out.1, HE.out.2.2], ?_, HBx.out⟩
      rw [HE.out.2.1]
      exact OwnR.nil_ _ _
  · skip
    obtain ⟨e1, e2⟩ := ad_yes (s := s) (rs := rs) (r := (ra, rb, rc, rd)) (by simp [adOk, q0, qn])
    have HE := Lib.hid (And.intro e1 (And.intro e2 (show adOk s rs (ra, rb, rc, rd) = true by simp [adOk, q0, qn])))
    clear e1 e2
    have HBD := Lib.hid (show Below w.heap.size w w1.drew from HB1.out.drew)
    have HXD := Lib.hid (show TBox w1.drew w.heap.size s (.slice A rs.length c) from HX1.out)
    have HQD := Lib.hid (show Four w1.drew (w.heap.size + 1) 0 (ra, rb, rc, rd) from HQ1.out)
    have HTD := Lib.hid (show BoxF w1.drew (w.heap.size + 1 + 1) 0 (.slice none 0 0) from HT1.out)
    have bA := below_alloc1 w1.drew (.cells #[.int .i64 ra, .int .i64 rb, .int .i64 rc, .int .i64 rd] 52)
    have HBA := Lib.hid (Below.then HBD.out bA)
    have HXA := Lib.hid (HXD.out.below bA)
    have HQA := Lib.hid (HQD.out.below bA)
    have HTA := Lib.hid (HTD.out.below bA)
    have HRA := Lib.hid (show Four (w1.drew.alloc (.cells #[.int .i64 ra, .int .i64 rb, .int .i64 rc, .int .i64 rd] 52)) w1.heap.size 0 (ra, rb, rc, rd) from four_new w1.drew (ra, rb, rc, rd) 52)
    have hsA : w1.heap.size ≤ (w1.drew.alloc (.cells #[.int .i64 ra, .int .i64 rb, .int .i64 rc, .int .i64 rd] 52)).heap.size := by simp
    clear bA
    have ya_1 := HX1.out.1
    have yb_1 := HX1.out.2
    have yc_1 := HQ1.out.1
    have yd_1 := HQ1.out.2.1
    have ye_1 := HQ1.out.2.2.1
    have yf_1 := HQ1.out.2.2.2
    have ya_d := HXD.out.1
    have yb_d := HXD.out.2
    have yc_d := HQD.out.1
    have yd_d := HQD.out.2.1
    have ye_d := HQD.out.2.2.1
    have yf_d := HQD.out.2.2.2
    have ya_a := HXA.out.1
    have yb_a := HXA.out.2
    have yc_a := HQA.out.1
    have yd_a := HQA.out.2.1
    have ye_a := HQA.out.2.2.1
    have yf_a := HQA.out.2.2.2
    have hgt := HT1.out.gt
    have hl1 : rs.length + 1 ≤ 1099511627776 := by omega
    have HRLN : Hid ((rs ++ [(ra, rb, rc, rd)]).length = rs.length + 1) := by unfold Hid; simp
    go_wp2_with fail
    go_region_held3 (fun W => W.cell? ⟨w.heap.size, 0, none⟩ = some (.int .i64 s) ∧ W.cell? ⟨w.heap.size, 1, none⟩ = some (.slice A rs.length c) ∧ W.cell? ⟨w.heap.size + 1, 0, none⟩ = some (.int .i64 ra) ∧ W.cell? ⟨w.heap.size + 1, 1, none⟩ = some (.int .i64 rb) ∧ W.cell? ⟨w.heap.size + 1, 2, none⟩ = some (.int .i64 rc) ∧ W.cell? ⟨w.heap.size + 1, 3, none⟩ = some (.int .i64 rd))
      (first | exact ⟨ya_1, yb_1, yc_1, yd_1, ye_1, yf_1⟩ | exact ⟨ya_d, yb_d, yc_d, yd_d, ye_d, yf_d⟩ | exact ⟨ya_a, yb_a, yc_a, yd_a, ye_a, yf_a⟩ | exact ⟨ya_2, yb_2, yc_2, yd_2, ye_2, yf_2⟩ | exact ⟨ya_2r, yb_2r, yc_2r, yd_2r, ye_2r, yf_2r⟩ | exact ⟨ya_4, yb_4, yc_4, yd_4, ye_4, yf_4⟩ | exact ⟨ya_5, yb_5, yc_5, yd_5, ye_5, yf_5⟩ | exact ⟨ya_6, yb_6, yc_6, yd_6, ye_6, yf_6⟩)
      (first
    | (go_at_call 56; refine (cloneR_any (.slice A rs.length c) rs w1.drew (HR.out.below HBD.out) (by omega)).mono ?_; rintro e w2 ⟨v2, rfl, ho2, hb2⟩; have HB2 := Lib.hid (Below.then HBD.out hb2); have HX2 := Lib.hid (HXD.out.below hb2); have HQ2 := Lib.hid (HQD.out.below hb2); have HT2 := Lib.hid (HTD.out.below hb2); have hs2 := hb2.size; have HO2 := Lib.hid (show OwnR w2 w1.heap.size v2 rs from ho2.mono (by simp)); have HSZ2 : Hid (w1.heap.size ≤ w2.heap.size) := Nat.le_trans (by simp) hb2.size; have ya_2 := HX2.out.1; have yb_2 := HX2.out.2; have yc_2 := HQ2.out.1; have yd_2 := HQ2.out.2.1; have ye_2 := HQ2.out.2.2.1; have yf_2 := HQ2.out.2.2.2; have bR := below_alloc1 w2 (.cells #[.int .i64 ra, .int .i64 rb, .int .i64 rc, .int .i64 rd] 52); have HB2r := Lib.hid (Below.then HB2.out bR); have HX2r := Lib.hid (HX2.out.below bR); have HQ2r := Lib.hid (HQ2.out.below bR); have HT2r := Lib.hid (HT2.out.below bR); have HO2r := Lib.hid (show OwnR (w2.alloc (.cells #[.int .i64 ra, .int .i64 rb, .int .i64 rc, .int .i64 rd] 52)) w1.heap.size v2 rs from World.ownsRow.alloc HO2.out _); have HR2r := Lib.hid (show Four (w2.alloc (.cells #[.int .i64 ra, .int .i64 rb, .int .i64 rc, .int .i64 rd] 52)) w2.heap.size 0 (ra, rb, rc, rd) from four_new w2 (ra, rb, rc, rd) 52); have HSZ2r : Hid (w1.heap.size ≤ (w2.alloc (.cells #[.int .i64 ra, .int .i64 rb, .int .i64 rc, .int .i64 rd] 52)).heap.size) := Nat.le_trans HSZ2.out bR.size; have ya_2r := HX2r.out.1; have yb_2r := HX2r.out.2; have yc_2r := HQ2r.out.1; have yd_2r := HQ2r.out.2.1; have ye_2r := HQ2r.out.2.2.1; have yf_2r := HQ2r.out.2.2.2; clear bR; clear ho2 hb2 hs2)
    | (go_at_call 56; refine (cloneR_any (.slice A rs.length c) rs (w1.drew.alloc (.cells #[.int .i64 ra, .int .i64 rb, .int .i64 rc, .int .i64 rd] 52)) (HR.out.below HBA.out) (by omega)).mono ?_; rintro e w2 ⟨v2, rfl, ho2, hb2⟩; have HB2 := Lib.hid (Below.then HBA.out hb2); have HX2 := Lib.hid (HXA.out.below hb2); have HQ2 := Lib.hid (HQA.out.below hb2); have HT2 := Lib.hid (HTA.out.below hb2); have hs2 := hb2.size; have HO2 := Lib.hid (show OwnR w2 w1.heap.size v2 rs from ho2.mono (by simp)); have HSZ2 : Hid (w1.heap.size ≤ w2.heap.size) := Nat.le_trans (by simp) hb2.size; have ya_2 := HX2.out.1; have yb_2 := HX2.out.2; have yc_2 := HQ2.out.1; have yd_2 := HQ2.out.2.1; have ye_2 := HQ2.out.2.2.1; have yf_2 := HQ2.out.2.2.2; have HR2 := Lib.hid (HRA.out.below hb2); clear ho2 hb2 hs2)
    | (go_at_call 55; refine (withR_yes s _ _ (rs ++ [(ra, rb, rc, rd)]) w4 HO4.out.rd qn).mono ?_; rintro e w5 ⟨rfl, hb5⟩; have HB5 := Lib.hid (Below.then HB4.out hb5); have HX5 := Lib.hid (HX4.out.below hb5); have HQ5 := Lib.hid (HQ4.out.below hb5); have HT5 := Lib.hid (HT4.out.below hb5); have HO5 := Lib.hid (HO4.out.below hb5); have ya_5 := HX5.out.1; have yb_5 := HX5.out.2; have yc_5 := HQ5.out.1; have yd_5 := HQ5.out.2.1; have ye_5 := HQ5.out.2.2.1; have yf_5 := HQ5.out.2.2.2; have v0 := HT5.out.1.1; have v1 := HT5.out.1.2; have f0 := HT5.out.2 0; have f1 := HT5.out.2 1; have HX6 := Lib.hid ((HX5.out.kept (setCell_grown _ ⟨w.heap.size + 1 + 1, 0, none⟩ (.int .i64 s)) (by simp; omega)).kept (setCell_grown _ ⟨w.heap.size + 1 + 1, 1, none⟩ (.slice Y4 (rs.length + 1) c4)) (by simp; omega)); have HQ6 := Lib.hid (four_kept (four_kept HQ5.out (setCell_grown _ ⟨w.heap.size + 1 + 1, 0, none⟩ (.int .i64 s)) (by simp)) (setCell_grown _ ⟨w.heap.size + 1 + 1, 1, none⟩ (.slice Y4 (rs.length + 1) c4)) (by simp)); have ya_6 := HX6.out.1; have yb_6 := HX6.out.2; have yc_6 := HQ6.out.1; have yd_6 := HQ6.out.2.1; have ye_6 := HQ6.out.2.2.1; have yf_6 := HQ6.out.2.2.2; clear hb5)
    | (refine step_appendR (w2.alloc (.cells #[.int .i64 ra, .int .i64 rb, .int .i64 rc, .int .i64 rd] 52)) rfl (.tmp 13) (.tmp 15) rfl w1.heap.size v2 rs [(ra, rb, rc, rd)] 1 rfl ⟨_, 0, none⟩ 1 (by simp [Act.eval]) HO2r.out (by simp [Act.eval]) (four_one HR2r.out) hl1 HSZ2r.out ?_; intro v4 w4 ho4 hg4; have HB4 := Lib.hid (HB2r.out.grown hg4 HB2r.out.size (fun k hk => Nat.le_trans HB1.out.size (HO2r.out.lt k hk).1)); have HX4 := Lib.hid (HX2r.out.kept hg4 (nb_ne (own_ne (fun k hk => (HO2r.out.lt k hk).1) (by omega)))); have HQ4 := Lib.hid (four_kept HQ2r.out hg4 (nb_ne (own_ne (fun k hk => (HO2r.out.lt k hk).1) (by omega)))); have HT4 := Lib.hid (HT2r.out.kept hg4 (nb_ne (own_ne (fun k hk => (HO2r.out.lt k hk).1) (by omega)))); obtain ⟨Y4, c4, e4, -, -, -⟩ := ho4.form; rw [HRLN.out] at e4; subst e4; have HO4 := Lib.hid ho4; have ya_4 := HX4.out.1; have yb_4 := HX4.out.2; have yc_4 := HQ4.out.1; have yd_4 := HQ4.out.2.1; have ye_4 := HQ4.out.2.2.1; have yf_4 := HQ4.out.2.2.2; clear ho4 hg4)
    | (refine step_appendR w2 rfl (.tmp 13) (.tmp 15) rfl w1.heap.size v2 rs [(ra, rb, rc, rd)] 1 rfl ⟨_, 0, none⟩ 1 (by simp [Act.eval]) HO2.out (by simp [Act.eval]) (four_one HR2.out) hl1 HSZ2.out ?_; intro v4 w4 ho4 hg4; have HB4 := Lib.hid (HB2.out.grown hg4 HB2.out.size (fun k hk => Nat.le_trans HB1.out.size (HO2.out.lt k hk).1)); have HX4 := Lib.hid (HX2.out.kept hg4 (nb_ne (own_ne (fun k hk => (HO2.out.lt k hk).1) (by omega)))); have HQ4 := Lib.hid (four_kept HQ2.out hg4 (nb_ne (own_ne (fun k hk => (HO2.out.lt k hk).1) (by omega)))); have HT4 := Lib.hid (HT2.out.kept hg4 (nb_ne (own_ne (fun k hk => (HO2.out.lt k hk).1) (by omega)))); obtain ⟨Y4, c4, e4, -, -, -⟩ := ho4.form; rw [HRLN.out] at e4; subst e4; have HO4 := Lib.hid ho4; have ya_4 := HX4.out.1; have yb_4 := HX4.out.2; have yc_4 := HQ4.out.1; have yd_4 := HQ4.out.2.1; have ye_4 := HQ4.out.2.2.1; have yf_4 := HQ4.out.2.2.2; clear ho4 hg4))
    all_goals
      have HBx := Lib.hid ((HB5.out.setCell (p := ⟨w.heap.size + 1 + 1, 0, none⟩) (show w.heap.size ≤ w.heap.size + 1 + 1 by omega) (.int .i64 s)).setCell (p := ⟨w.heap.size + 1 + 1, 1, none⟩) (show w.heap.size ≤ w.heap.size + 1 + 1 by omega) (.slice Y4 (rs.length + 1) c4))
      have R0 : Hid (((w5.setCell ⟨w.heap.size + 1 + 1, 0, none⟩ (.int .i64 s)).setCell ⟨w.heap.size + 1 + 1, 1, none⟩ (.slice Y4 (rs.length + 1) c4)).cell? ⟨w.heap.size + 1 + 1, 0, none⟩ = some (.int .i64 s)) := (World.cell?_setCell_other _ _ _ _ (by simp)).trans (World.cell?_setCell_same _ _ _ v0)
      have R1 : Hid (((w5.setCell ⟨w.heap.size + 1 + 1, 0, none⟩ (.int .i64 s)).setCell ⟨w.heap.size + 1 + 1, 1, none⟩ (.slice Y4 (rs.length + 1) c4)).cell? ⟨w.heap.size + 1 + 1, 1, none⟩ = some (.slice Y4 (rs.length + 1) c4)) := World.cell?_setCell_same _ _ _ ((World.cell?_setCell_other _ _ _ _ (by simp)).trans v1)
      have HOx := Lib.hid ((HO5.out.kept (setCell_grown _ ⟨w.heap.size + 1 + 1, 0, none⟩ (.int .i64 s)) (own_ne (fun k hk => (HO5.out.lt k hk).1) (by simp; omega))).kept (setCell_grown _ ⟨w.heap.size + 1 + 1, 1, none⟩ (.slice Y4 (rs.length + 1) c4)) (own_ne (fun k hk => (HO5.out.lt k hk).1) (by simp; omega)))
      have hv1 := HB1.out.size
      clear HB5 HX5 HQ5 HT5 HX6 HQ6 HB4 HX4 HQ4 HT4 HB2 HX2 HQ2 HT2
      go_wp2
      have r0 := R0.out
      have r1 := R1.out
      refine bodyPost_ret (v := .tuple #[.agg #[.int .i64 s, .slice Y4 (rs.length + 1) c4], .bool true]) (by simp only [results, Try.results31]; simp [go_sem, r0, r1]) rfl ⟨.slice Y4 (rs.length + 1) c4, by rw [HE.out.1, HE.out.2.2], ?_, HBx.out⟩
      rw [HE.out.2.1]
      exact HOx.out.mono hv1
end Go.Proofs.Ytdmneccfbfdloaa
