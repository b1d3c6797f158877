/- FnExactCycleThrough: spec.CycleThrough. -/
import Derived.Test.YtkcffjojklmbpabThr
import Derived.Test.YtkcffjojklmbpabBeat
namespace Go.Proofs.Ytkcffjojklmbpab
open Go.RowKit Go.Sort
set_option maxRecDepth 100000
theorem step_appendE {ops : Array Oper} {o : Oper} {a : Act} {K : Act → World → Prop} {Q : Exit → Act → World → Prop} {E : Prop} (w : World) (hgd : o.guard = none) (s x : Operand)
    (ho : o.op = .call { callee := .builtin .append, args := #[s, x], argTypes := #[22, 22] })
    (base g0 : Nat) (ys : List Int) (m : Nat) (hm : ys.length = m) (h0 : 0 < m) (gx cx : Nat) (hs : a.eval s = .slice (some ⟨g0, 0, none⟩) 0 0) (hown : Own w base (.slice (some ⟨g0, 0, none⟩) 0 0) []) (hx : a.eval x = .slice (some ⟨gx, 0, none⟩) m cx)
    (hc : ∀ k, k < m → w.cell? ⟨gx, k, none⟩ = some (.int .i64 (ys.getD k 0))) (hlen : m ≤ 1099511627776) (hbase : base ≤ w.heap.size)
    (h : ∀ g c w', Own w' base (.slice (some ⟨g, 0, none⟩) m c) ys → w.grownBy w' (some g0) → K (a.put o.dst (.slice (some ⟨g, 0, none⟩) m c)) w') :
    if Region.wanted o (yielded ops a.tmps) = true then Oper.wp Try.prog o a w K Q else E := by
  subst hm
  have hw : Region.wanted o (yielded ops a.tmps) = true := by simp [Region.wanted, hgd]
  rw [if_pos hw]
  obtain ⟨i0, hi, hz0, hz1, hz2⟩ := info_parts i64_info
  have hnews : ∀ j u, (ys.map (Value.int .i64))[j]? = some u → w.cell? ((⟨gx, 0, none⟩ : Addr).add j) = some u := by
    intro j u hj
    have hjl : j < ys.length := by simpa using (List.getElem?_eq_some_iff.1 hj).1
    rw [Addr.add_lit, Nat.zero_add, hc j hjl]
    simp [hjl] at hj
    simp [hjl, hj]
  have h1 : ∀ u ∈ ys.map (Value.int .i64), u.oneCell' = true := by intro u hu; simp at hu; obtain ⟨y, -, rfl⟩ := hu; rfl
  obtain ⟨v', w', hr, h2, h3, -, -⟩ := run_append_own_at (P := Try.prog) w base 22 o.type 3 i0 (.int .i64 0) 1 8 Try.underlying22 hi hz0 hz1 hz2 rfl (by decide) _ 0 [] hown ⟨gx, 0, none⟩ ys.length cx (ys.map (Value.int .i64)) (by simp) hnews h1 (by unfold maxLen; omega) (by omega) hbase
  have h2' : Own w' base v' ys := by unfold Own; simpa using h2
  obtain ⟨A, c', e, -, -, hA⟩ := h2'.form
  obtain ⟨g', rfl, -, -⟩ := hA h0
  subst e
  unfold Oper.wp execOp
  simp only [ho, resolve, invoke, builtin, Sem.run_bind, Sem.run_pure, Result.andThen_ok, List.map_toArray, List.map_cons, List.map_nil, hs, hx, hr]
  exact h g' c' w' h2' h3
theorem fs_filter {β : Type} (l : List Nat) (p : Nat → Bool) (F : Nat → Option β) : (l.filter p).findSome? F = l.findSome? fun b => if p b = true then F b else none := by
  induction l with
  | nil => rfl
  | cons x l ih =>
    rcases q : p x with _ | _
    · rw [List.filter_cons_of_neg (by simp [q]), ih, List.findSome?_cons]; simp [q]
    · rw [List.filter_cons_of_pos q, List.findSome?_cons, List.findSome?_cons, ih]; simp [q]
def CPost (xs : List Int) (want : List Nat → Bool) (m : Nat) (way : List Nat) (base : Nat) (w : World) (e : Ending) (w' : World) : Prop :=
  ∃ v', e = .returned (.tuple #[v', .bool (dfs xs xs.length want m way).isSome]) ∧ (∀ L, dfs xs xs.length want m way = some L → Own w' base v' (nI L)) ∧ (0 < m → dfs xs xs.length want m way = none → v' = .slice none 0 0) ∧ Below w.heap.size w w'
set_option maxHeartbeats 1000000 in
theorem l06Cycle_zero (n : Nat) (sl : Value) (xs : List Int) (hp : tourP n xs) (k a0 : Nat) (hk : 1 ≤ k ∧ k ≤ 8)
    (way : List Nat) (base : Nat) (v : Value) (w : World) (hR : Rd w sl xs) (ho : Own w base v (nI way)) (hl : way.length = k) (hx : ∀ x ∈ way, x < xs.length) (h0 : way.getD 0 0 = a0) :
    Calls Try.prog 32 #[.agg #[.int .i64 n, sl], v, .int .i64 k] w (CPost xs (cwA xs a0) 0 way base w) := by
  have hs := hp.1
  have hsl := hp.2.1
  obtain ⟨g, c, rfl, hbg, hc, hkc, hcell, -⟩ := ho.at_ (n := k) (by rw [nI_len, hl]) hk.1
  obtain ⟨p, hpk⟩ : ∃ p, k = p + 1 := ⟨k - 1, by omega⟩
  have hlast := hcell p (by omega)
  rw [nI_getD (by omega)] at hlast
  have hfirst := hcell 0 (by omega)
  rw [nI_getD (by omega), h0] at hfirst
  have ha0 : a0 < xs.length := by rw [← h0]; exact hx _ (by rw [getD_nat (by omega)]; exact List.getElem_mem _)
  have hlw : lastN way = way.getD p 0 := by unfold lastN; rw [hl, hpk]; rfl
  have hlt : way.getD p 0 < xs.length := hx _ (by rw [getD_nat (by omega)]; exact List.getElem_mem _)
  have hF : Hid (cwA xs a0 way = bitI (xs.getD (way.getD p 0) 0) a0) := by unfold Hid cwA; rw [hlw]; exact (bit_nat hp hlt).symm
  have hD : Hid (dfs xs xs.length (cwA xs a0) 0 way = if cwA xs a0 way = true then some way else none) := rfl
  have hidx : IntKind.i64.wrap ((k : Int) - 1) = p := by rw [show (k : Int) - 1 = p by omega]; rw [IntKind.wrap_i64]; omega
  have hidx2 : wrap64 ((k : Int) - 1) = p := by rw [show (k : Int) - 1 = p by omega]; exact IntWalk.wrap64_in (p : Int) (by omega)
  have i1 : (0 : Int) ≤ p := by omega
  have i2 : (p : Int) < k := by omega
  have i3 : p < k := by omega
  have i4 : 0 < k := by omega
  have HO := Lib.hid ho
  have HR := Lib.hid hR
  have hgw := (ho.lt g rfl).2
  unfold maxLen at hc
  generalize way.getD p 0 = last at *
  clear hcell ho hR hpk hl hx hlw h0
  go_enter Try.func32, Try.ntmps32
  go_wp2_with fail
  have HB0 := Lib.hid (below_alloc1 w (.cells #[.int .i64 n, sl] 28))
  have HX0 := Lib.hid (TBox.new w n sl 28)
  generalize w.alloc (.cells #[.int .i64 n, sl] 28) = w0 at *
  have hl0 := (HB0.out.cell (p := ⟨g, p, none⟩) hgw).trans hlast
  have hf0 := (HB0.out.cell (p := ⟨g, 0, none⟩) hgw).trans hfirst
  go_wp2_with fail
  have k1 := quiet_below (w := w0) (fun W' hW => l02Beats_any n sl xs (last : Nat) a0 W' ((HR.out.below HB0.out).below hW) (by omega) (by omega) (by omega) (by omega))
  rw [Int.toNat_natCast, Int.toNat_natCast] at k1
  have d1 := cell_regrown HX0.out.1
  have d2 := cell_regrown HX0.out.2
  have d3 := cell_regrown hf0
  clear hl0 hf0 hlast hfirst
  refine wp_region_below (by kernel_rfl) (by kernel_rfl) ?_
  repeat (go_big_quiet_step (first | (with_reducible exact k1 _ _)))
  refine wpQuiet_nil ?_
  intro wq hbq0
  have HBQ := Lib.hid (Below.then HB0.out hbq0)
  clear hbq0 d1 d2 d3 k1
  have HO2 := Lib.hid (HO.out.below HBQ.out)
  go_wp2
  go_ret2
  refine ⟨.slice (some ⟨g, 0, none⟩) k c, ?_, fun L h => ?_, fun h => absurd h (by omega), HBQ.out⟩
  · rw [hD.out, ← hF.out]
    rcases cwA xs a0 way with _ | _ <;> rfl
  · rw [hD.out] at h
    split at h
    · injection h with h
      subst h
      exact HO2.out
    · cases h
theorem beqNat (x b : Nat) : ((x : Int) == (b : Int)) = (x == b) := by rw [Bool.eq_iff_iff, beq_iff_eq, beq_iff_eq]; omega
theorem below_d {w : World} : Below w.heap.size w w.drew := (Below.refl _ _).drew
set_option maxHeartbeats 4000000 in
theorem l06Cycle_any (n : Nat) (sl : Value) (xs : List Int) (hp : tourP n xs) (k a0 : Nat) (hk : 1 ≤ k ∧ k ≤ 8) (m : Nat) :
    ∀ (way : List Nat) (base : Nat) (v : Value) (w : World), Rd w sl xs → base ≤ w.heap.size → Own w base v (nI way) → 0 < way.length → way.length + m = k → (∀ x ∈ way, x < xs.length) → way.getD 0 0 = a0 →
    Calls Try.prog 32 #[.agg #[.int .i64 n, sl], v, .int .i64 k] w (CPost xs (cwA xs a0) m way base w) := by
  induction m with
  | zero =>
    intro way base v w hR _ ho _ hl hx h0
    exact l06Cycle_zero n sl xs hp k a0 hk way base v w hR ho hl hx h0
  | succ m ih =>
    intro way base v w hR hbw ho hpos hl hx h0
    have IH := Lib.hid ih
    clear ih
    obtain ⟨q, hpl⟩ : ∃ q, way.length = q := ⟨_, rfl⟩
    obtain ⟨p, hpq⟩ : ∃ p, q = p + 1 := ⟨q - 1, by omega⟩
    have hpq1 : p < q := by omega
    obtain ⟨g, c, rfl, hbg, hc, hkc, hcell, -⟩ := ho.at_ (n := q) (by rw [nI_len, hpl]) (by omega)
    have hlastc := hcell p (by omega)
    rw [nI_getD (by omega)] at hlastc
    have hgw := (ho.lt g rfl).2
    have HWC := Lib.hid hcell
    have HWN := Lib.hid (fun j (h : j < q) => show (nI way).getD j 0 = ((way.getD j 0 : Nat) : Int) from nI_getD (by omega))
    have HR := Lib.hid hR
    obtain ⟨gt, off, ct, rfl, hmt, hgt, hxt⟩ := tour_cells hR hp
    have hlt : way.getD p 0 < xs.length := hx _ (by rw [getD_nat (by omega)]; exact List.getElem_mem _)
    have hwin := hxt _ hlt
    have hW := (tour_wins hp hlt).2.1
    have hs := hp.1
    have hsl := hp.2.1
    have HO := Lib.hid ho
    have HX := Lib.hid hx
    have HL := Lib.hid hl
    have HP := Lib.hid hpl
    have H0 : Hid (∀ b, (way ++ [b]).getD 0 0 = a0) := fun b => by
      rw [List.getD_eq_getElem?_getD, List.getElem?_append_left hpos, ← h0, List.getD_eq_getElem?_getD]
    have HDF : Hid (dfs xs xs.length (cwA xs a0) (m + 1) way = (memN (winsN xs (way.getD p 0)) xs.length).findSome? fun b => if (!way.contains b) = true then dfs xs xs.length (cwA xs a0) m (way ++ [b]) else none) := by
      have e : cand xs xs.length way = (memN (winsN xs (way.getD p 0)) xs.length).filter fun b => !way.contains b := by unfold cand lastN; rw [hpl, hpq]; rfl
      have e2 : dfs xs xs.length (cwA xs a0) (m + 1) way = (cand xs xs.length way).findSome? fun b => dfs xs xs.length (cwA xs a0) m (way ++ [b]) := rfl
      unfold Hid
      rw [e2, e, fs_filter]
    clear ho hx hcell hxt hp hR h0
    unfold maxLen at hc hmt
    have hpk : q < k := by omega
    generalize hn : xs.length = n' at *
    obtain rfl : n = n' := by omega
    rw [Int.toNat_natCast] at hW
    have hn8 : n ≤ 8 := by omega
    have hp8 := pow_le hn8
    generalize hlw : way.getD p 0 = last at *
    have hidx : IntKind.i64.wrap ((q : Int) - 1) = p := by rw [show (q : Int) - 1 = p by omega]; rw [IntKind.wrap_i64]; omega
    have hidx2 : wrap64 ((q : Int) - 1) = p := by rw [show (q : Int) - 1 = p by omega]; exact IntWalk.wrap64_in (p : Int) (by omega)
    have i1 : (0 : Int) ≤ p := by omega
    have i2 : (p : Int) < q := by omega
    have HN := Lib.hid hn
    have hq : (q == k) = false := by simp; omega
    have hhn := HN.out
    clear hn hl hpl hpq
    go_enter Try.func32, Try.ntmps32
    go_wp2_with fail
    have b0 := below_alloc1 w (.cells #[.int .i64 n, .slice (some ⟨gt, off, none⟩) n ct] 28)
    have x0 := TBox.new w n (.slice (some ⟨gt, off, none⟩) n ct) 28
    generalize w.alloc (.cells #[.int .i64 n, .slice (some ⟨gt, off, none⟩) n ct] 28) = w0 at *
    have HX0 := Lib.hid x0
    have HB0 := Lib.hid b0
    clear x0 b0
    have y0_0 := HX0.out.1
    have y1_0 := HX0.out.2
    have hlast0 := (HB0.out.cell (p := ⟨g, p, none⟩) hgw).trans hlastc
    have hwin0 := (HB0.out.cell (p := ⟨gt, off + last, none⟩) hgt).trans hwin
    clear hlastc hwin
    go_wp2_with fail
    refine (l02List_any (winsN xs last) n w0 hW (by omega)).mono ?_
    rintro e w2 ⟨v2, rfl, ho2, hb2⟩
    obtain ⟨A2, d2, rfl, hd1, hd2, hl2⟩ := memL_cells ho2
    unfold maxLen at hd1
    have HLC := Lib.hid hl2
    have HLT := Lib.hid (fun b (h : b ∈ memN (winsN xs last) n) => (memN_at' h))
    have hmn := memN_len (winsN xs last) n
    have HB2 := Lib.hid (Below.then HB0.out hb2)
    have HX2 := Lib.hid (HX0.out.below hb2)
    clear hl2 ho2 hb2 hlast0 hwin0 HB0 HX0 y0_0 y1_0
    generalize memN (winsN xs last) n = LL at *
    generalize hmm : LL.length = mm at *
    have HMM := Lib.hid hmm
    clear hmm
    go_wp2
    go_loopw [40] (fun i wr => ∃ j : Nat, j ≤ mm ∧ i = .int .i64 j ∧ Hid (∀ a, a < j → (if (!way.contains (LL.getD a 0)) = true then dfs xs n (cwA xs a0) m (way ++ [LL.getD a 0]) else none) = none) ∧ Hid (Below w2.heap.size w2 wr)) (fun i _ => mm - (intOf i).toNat)
    case atStart => exact ⟨0, by omega, rfl, fun a ha => absurd ha (by omega), Below.refl _ _⟩
    case round =>
      obtain ⟨wo, rfl⟩ : ∃ x, x = wr := ⟨_, rfl⟩
      obtain ⟨j, hj, rfl, HDN, HG⟩ := hrel
      by_cases hjm : j < mm
      · have hjl : j < LL.length := by rw [HMM.out]; exact hjm
        have hb := HLT.out (LL.getD j 0) (by rw [getD_nat hjl]; exact List.getElem_mem _)
        obtain ⟨g2, off2, rfl, hg2w, hcl2⟩ := HLC.out (by omega)
        have hcjo := (HG.out.cell (p := ⟨g2, off2 + j, none⟩) hg2w).trans (hcl2 j hjm)
        have HBo := Lib.hid (Below.then HB2.out HG.out)
        have HXo := Lib.hid (HX2.out.below HG.out)
        clear hcl2
        obtain ⟨b, hbe⟩ : ∃ b, LL.getD j 0 = b := ⟨_, rfl⟩
        rw [hbe] at hb hcjo
        have HBE := Lib.hid hbe
        clear hbe
        go_wp2
        go_loop [11, 46] (fun t i => ∃ r : Nat, r ≤ q ∧ i = .int .i64 r ∧ t = .bool ((way.take r).contains b)) (fun _ i => q - (intOf i).toNat)
        case atStart => exact ⟨0, by omega, rfl, by simp⟩
        case round =>
          obtain ⟨r, hr, rfl, rfl⟩ := hrel
          by_cases hrq : r < q
          · have hwr := (HBo.out.cell (p := ⟨g, r, none⟩) hgw).trans (HWC.out r hrq)
            rw [HWN.out r hrq] at hwr
            have HST : Hid ((way.take (r + 1)).contains b = ((way.take r).contains b || (way.getD r 0 == b))) := by
              unfold Hid
              rw [take_snocN' (by rw [HP.out]; exact hrq), List.contains_eq_any_beq, List.contains_eq_any_beq, List.any_append, List.any_cons, List.any_nil, Bool.or_false]
              congr 1
              rw [Bool.eq_iff_iff]; simp; exact eq_comm
            have hcast : (((way.getD r 0 : Nat) : Int) == (b : Int)) = (way.getD r 0 == b) := beqNat _ _
            generalize way.getD r 0 = x at *
            rcases qs : (way.take r).contains b with _ | _
            · rcases qx : (x == b) with _ | _
              · rw [qx] at hcast
                go_wp2
                go_round
                case rel => exact ⟨r + 1, by omega, by go_num, by rw [HST.out, qs, qx]; rfl⟩
                case measure => simp [intOf]; omega
              · rw [qx] at hcast
                go_wp2
                go_round
                case rel => exact ⟨r + 1, by omega, by go_num, by rw [HST.out, qs, qx]; rfl⟩
                case measure => simp [intOf]; omega
            · go_wp2
              go_round
              case rel => exact ⟨r + 1, by omega, by go_num, by rw [HST.out, qs]; rfl⟩
              case measure => simp [intOf]; omega
          · obtain rfl : q = r := by omega
            have HTK : Hid (way.take q = way) := List.take_of_length_le (by rw [HP.out]; exact Nat.le_refl _)
            rw [HTK.out]
            rcases qs : way.contains b with _ | _
            · have HQS := Lib.hid qs
              clear qs
              have HQN : Hid ((nI way).length = q) := by unfold Hid; rw [nI_len]; exact HP.out
              have HBD := Lib.hid (show Below wo.heap.size wo wo.drew from below_d)
              have HBE1 := Lib.hid (HBD.out.alloc (Nat.le_refl _) (.cells #[] 3))
              have HBB1 := Lib.hid (HBD.out.alloc (Nat.le_refl _) (.cells #[.int .i64 (b : Nat)] 3))
              have HBE2 := Lib.hid (HBE1.out.alloc HBE1.out.size (.cells #[.int .i64 (b : Nat)] 3))
              have HBB2 := Lib.hid (HBB1.out.alloc HBB1.out.size (.cells #[] 3))
              have hb0 := HXo.out.below HBD.out
              have hd := HXo.out.below HBD.out
              have y0_d := hd.1
              have y1_d := hd.2
              clear hd
              have he1 := HXo.out.below HBE1.out
              have y0_e1 := he1.1
              have y1_e1 := he1.2
              clear he1
              have hb1 := HXo.out.below HBB1.out
              have y0_b1 := hb1.1
              have y1_b1 := hb1.2
              clear hb1
              have he2 := HXo.out.below HBE2.out
              have y0_e2 := he2.1
              have y1_e2 := he2.2
              clear he2
              have hb2 := HXo.out.below HBB2.out
              have y0_b2 := hb2.1
              have y1_b2 := hb2.2
              clear hb2
              have y0_o := HXo.out.1
              have y1_o := HXo.out.2
              have HOE1 := Lib.hid (show Own (wo.drew.alloc (.cells #[] 3)) wo.heap.size (.slice (some ⟨wo.heap.size, 0, none⟩) 0 0) [] from Own.lit wo.drew wo.heap.size [] (Nat.le_refl _) (by simp))
              have HOE2 := Lib.hid (HOE1.out.below (below_alloc1 _ (.cells #[.int .i64 (b : Nat)] 3)))
              have hsB : (wo.drew.alloc (.cells #[.int .i64 (b : Nat)] 3)).heap.size = wo.heap.size + 1 := by simp
              have hsE : (wo.drew.alloc (.cells #[] 3)).heap.size = wo.heap.size + 1 := by simp
              have hOB2 := Own.lit (wo.drew.alloc (.cells #[.int .i64 (b : Nat)] 3)) wo.heap.size [] (by omega) (by simp)
              rw [hsB] at hOB2
              have HOB2 := Lib.hid (show Own ((wo.drew.alloc (.cells #[.int .i64 (b : Nat)] 3)).alloc (.cells #[] 3)) wo.heap.size (.slice (some ⟨wo.heap.size + 1, 0, none⟩) 0 0) [] from hOB2)
              have hcB := cell_new1 wo.drew (.int .i64 (b : Nat)) 3
              have hcE2 := cell_new1 (wo.drew.alloc (.cells #[] 3)) (.int .i64 (b : Nat)) 3
              rw [hsE] at hcE2
              have HCE2 : Hid (((wo.drew.alloc (.cells #[] 3)).alloc (.cells #[.int .i64 (b : Nat)] 3)).cell? ⟨wo.heap.size + 1, 0, none⟩ = some (.int .i64 (b : Nat))) := hcE2
              have HCB1 : Hid ((wo.drew.alloc (.cells #[.int .i64 (b : Nat)] 3)).cell? ⟨wo.heap.size, 0, none⟩ = some (.int .i64 (b : Nat))) := hcB
              have HCB2 : Hid (((wo.drew.alloc (.cells #[.int .i64 (b : Nat)] 3)).alloc (.cells #[] 3)).cell? ⟨wo.heap.size, 0, none⟩ = some (.int .i64 (b : Nat))) := ((below_alloc1 (wo.drew.alloc (.cells #[.int .i64 (b : Nat)] 3)) (.cells #[] 3)).cell (World.block_lt_of_cell? _ _ HCB1.out)).trans HCB1.out
              have hwc := fun (W : World) (hW : Below wo.heap.size wo W) r (hr : r < q) => ((Below.then HBo.out hW).cell (p := ⟨g, r, none⟩) hgw).trans (HWC.out r hr)
              have HWW := Lib.hid hwc
              have HLX := Lib.hid (World.block_lt_of_cell? _ _ HXo.out.1)
              have HL2 : Hid (0 < (way ++ [b]).length ∧ (way ++ [b]).length + m = k) := by have := HL.out; have := HP.out; unfold Hid; rw [List.length_append, List.length_singleton]; omega
              have HNW : Hid (∀ x ∈ way ++ [b], x < n) := fun x hx => by
                rw [List.mem_append, List.mem_singleton] at hx
                rcases hx with hx | rfl
                · exact HX.out x hx
                · exact hb
              have hszb := HBo.out.size
              clear hwc hcB hcE2 hOB2 hb0 hsB hsE
              go_wp2_with fail
              go_region_held3 (fun W => W.cell? ⟨w.heap.size, 0, none⟩ = some (.int .i64 n) ∧ W.cell? ⟨w.heap.size, 1, none⟩ = some (.slice (some ⟨gt, off, none⟩) n ct))
                (first | exact ⟨y0_o, y1_o⟩ | exact ⟨y0_d, y1_d⟩ | exact ⟨y0_e1, y1_e1⟩ | exact ⟨y0_b1, y1_b1⟩ | exact ⟨y0_e2, y1_e2⟩ | exact ⟨y0_b2, y1_b2⟩ | exact ⟨y0_5, y1_5⟩ | exact ⟨y0_5b, y1_5b⟩ | exact ⟨y0_6, y1_6⟩ | exact ⟨y0_7, y1_7⟩)
                (first
                  | (go_at_call 32; refine (IH.out (way ++ [b]) wo.heap.size _ w6 HR6.out HB6.out.size HO6.out HL2.out.1 HL2.out.2 HNW.out (H0.out b)).mono ?_; rintro e w7 ⟨v7, rfl, hs7, hn7, hb7⟩; have HS7 := Lib.hid hs7; have HN7 := Lib.hid hn7; have HB7 := Lib.hid (Below.then HB6.out hb7); have h7 := HXo.out.below HB7.out; have y0_7 := h7.1; have y1_7 := h7.2; clear hs7 hn7 hb7 h7)
                  | (refine step_appendE (wo.drew.alloc (.cells #[] 3)) rfl (.tmp 60) (.tmp 61) rfl wo.heap.size wo.heap.size (nI way) q HQN.out (by omega) g c (by simp [Act.eval]) HOE1.out (by simp [Act.eval]) (HWW.out _ HBE1.out) (by omega) HBE1.out.size ?_; intro g5 c5 w5 ho5 hg5; have HB5 := Lib.hid (HBE1.out.grown hg5 HBE1.out.size (fun x hx => by injection hx with hx; omega)); have h5 := HXo.out.below HB5.out; have y0_5 := h5.1; have y1_5 := h5.2; have HO5 := Lib.hid ho5; have HB5b := Lib.hid (HB5.out.alloc HB5.out.size (.cells #[.int .i64 (b : Nat)] 3)); have h5b := HXo.out.below HB5b.out; have y0_5b := h5b.1; have y1_5b := h5b.2; have HO5b := Lib.hid (HO5.out.below (below_alloc1 w5 (.cells #[.int .i64 (b : Nat)] 3))); have HC5b := Lib.hid (cell_new1 w5 (.int .i64 (b : Nat)) 3); clear h5b; clear ho5 hg5 h5)
                  | (refine step_appendE ((wo.drew.alloc (.cells #[] 3)).alloc (.cells #[.int .i64 (b : Nat)] 3)) rfl (.tmp 60) (.tmp 61) rfl wo.heap.size wo.heap.size (nI way) q HQN.out (by omega) g c (by simp [Act.eval]) HOE2.out (by simp [Act.eval]) (HWW.out _ HBE2.out) (by omega) HBE2.out.size ?_; intro g5 c5 w5 ho5 hg5; have HB5 := Lib.hid (HBE2.out.grown hg5 HBE2.out.size (fun x hx => by injection hx with hx; omega)); have h5 := HXo.out.below HB5.out; have y0_5 := h5.1; have y1_5 := h5.2; have HO5 := Lib.hid ho5; have HC5 := Lib.hid ((World.cell?_of_block (a := ⟨wo.heap.size + 1, 0, none⟩) (hg5.block (wo.heap.size + 1) (World.block_lt_of_cell? _ _ HCE2.out) (by intro h; injection h with h; omega))).trans HCE2.out); clear ho5 hg5 h5)
                  | (refine step_appendE ((wo.drew.alloc (.cells #[.int .i64 (b : Nat)] 3)).alloc (.cells #[] 3)) rfl (.tmp 60) (.tmp 61) rfl wo.heap.size (wo.heap.size + 1) (nI way) q HQN.out (by omega) g c (by simp [Act.eval]) HOB2.out (by simp [Act.eval]) (HWW.out _ HBB2.out) (by omega) HBB2.out.size ?_; intro g5 c5 w5 ho5 hg5; have HB5 := Lib.hid (HBB2.out.grown hg5 HBB2.out.size (fun x hx => by injection hx with hx; omega)); have h5 := HXo.out.below HB5.out; have y0_5 := h5.1; have y1_5 := h5.2; have HO5 := Lib.hid ho5; have HC5 := Lib.hid ((World.cell?_of_block (a := ⟨wo.heap.size, 0, none⟩) (hg5.block wo.heap.size (World.block_lt_of_cell? _ _ HCB2.out) (by intro h; injection h with h; omega))).trans HCB2.out); clear ho5 hg5 h5)
                  | (refine step_append1k (w5.alloc (.cells #[.int .i64 (b : Nat)] 3)) rfl (.tmp 62) (.tmp 64) rfl wo.heap.size (.slice (some ⟨g5, 0, none⟩) q c5) (nI way) q HQN.out (b : Int) _ (by simp [Act.eval]) HO5b.out (by simp [Act.eval]) HC5b.out (by omega) HB5b.out.size ?_; intro g6 c6 w6 ho6 _ hg6 _; have HB6 := Lib.hid (HB5b.out.grown hg6 HB5b.out.size (fun x hx => (HO5b.out.lt x hx).1)); have h6 := HXo.out.below HB6.out; have y0_6 := h6.1; have y1_6 := h6.2; have HO6 := Lib.hid (show Own w6 wo.heap.size (.slice (some ⟨g6, 0, none⟩) (q + 1) c6) (nI (way ++ [b])) from by rw [nI_snoc]; exact ho6); have HR6 := Lib.hid (HR.out.below (Below.then HBo.out HB6.out)); clear ho6 hg6 h6)
                  | (refine step_append1k w5 rfl (.tmp 62) (.tmp 64) rfl wo.heap.size (.slice (some ⟨g5, 0, none⟩) q c5) (nI way) q HQN.out (b : Int) _ (by simp [Act.eval]) HO5.out (by simp [Act.eval]) HC5.out (by omega) HB5.out.size ?_; intro g6 c6 w6 ho6 _ hg6 _; have HB6 := Lib.hid (HB5.out.grown hg6 HB5.out.size (fun x hx => (HO5.out.lt x hx).1)); have h6 := HXo.out.below HB6.out; have y0_6 := h6.1; have y1_6 := h6.2; have HO6 := Lib.hid (show Own w6 wo.heap.size (.slice (some ⟨g6, 0, none⟩) (q + 1) c6) (nI (way ++ [b])) from by rw [nI_snoc]; exact ho6); have HR6 := Lib.hid (HR.out.below (Below.then HBo.out HB6.out)); clear ho6 hg6 h6))
              all_goals
                rw [HN.out] at HS7 HN7
                have HBW := Lib.hid (Below.then HBo.out HB7.out)
                have HW7 := Lib.hid (Below.then HG.out HB7.out)
                clear y0_d y1_d y0_e1 y1_e1 y0_b1 y1_b1 y0_e2 y1_e2 y0_b2 y1_b2 y0_o y1_o y0_5 y1_5 y0_6 y1_6 y0_7 y1_7
                rcases hd : dfs xs n (cwA xs a0) m (way ++ [b]) with _ | L
                · have HD := Lib.hid hd
                  clear hd
                  rw [show (none : Option (List Nat)).isSome = false from rfl]
                  go_wp2
                  go_roundw
                  case rel =>
                    refine ⟨j + 1, by omega, by go_num, fun a ha => ?_, HW7.out⟩
                    by_cases haj : a < j
                    · exact HDN.out a haj
                    · obtain rfl : a = j := by omega
                      rw [HBE.out, HQS.out]; exact HD.out
                  case measure => simp [intOf]; omega
                · have HR7 : Hid (dfs xs n (cwA xs a0) (m + 1) way = some L) := by
                    unfold Hid
                    rw [HDF.out]
                    exact fs_hit hjl HDN.out (by rw [HBE.out, HQS.out]; exact hd)
                  have ho := HS7.out L hd
                  have HOL := Lib.hid (ho.mono (Nat.le_trans hbw hszb))
                  rw [show (some L).isSome = true from rfl]
                  have HD := Lib.hid hd
                  clear hd ho
                  go_wp2
                  go_ret2
                  unfold CPost
                  rw [HN.out]
                  refine ⟨v7, by rw [HR7.out]; rfl, fun L' h => ?_, fun _ h => ?_, HBW.out⟩
                  · rw [HR7.out] at h
                    injection h with h
                    subst h
                    exact HOL.out
                  · rw [HR7.out] at h; cases h
            · have HQS := Lib.hid qs
              clear qs
              go_wp2
              go_roundw
              case rel =>
                refine ⟨j + 1, by omega, by go_num, fun a ha => ?_, HG.out⟩
                by_cases haj : a < j
                · exact HDN.out a haj
                · obtain rfl : a = j := by omega
                  rw [HBE.out, HQS.out]; rfl
              case measure => simp [intOf]; omega
      · obtain rfl : mm = j := by omega
        have HR6 : Hid (dfs xs n (cwA xs a0) (m + 1) way = none) := by
          unfold Hid
          rw [HDF.out]
          exact fs_miss (by rw [HMM.out]; exact HDN.out)
        have HBo := Lib.hid (Below.then HB2.out HG.out)
        go_wp2
        go_ret2
        unfold CPost
        rw [HN.out]
        exact ⟨.slice none 0 0, by rw [HR6.out]; rfl, fun L' h => by (rw [HR6.out] at h; cases h), fun _ _ => rfl, HBo.out⟩
set_option maxHeartbeats 2000000 in
theorem specCycle (s : Int) (sl : Value) (xs : List Int) (a k : Int) (w : World) (h : Rd w sl xs) :
    Calls Try.prog 10 #[.agg #[.int .i64 s, sl], .int .i64 a, .int .i64 k] w fun e w' => ∃ v', e = .returned (.tuple #[v', .bool (cycO s xs a k).isSome]) ∧ Own w' w.heap.size v' (cycL s xs a k) ∧ Below w.heap.size w w' := by
  have HR := Lib.hid h
  obtain ⟨A, c, rfl, -, -, -⟩ := h
  rcases q0 : (tourB s xs && inB a 0 (s - 1)) with _ | _
  case false =>
    go_enter Try.func10, Try.ntmps10
    go_wp2_with fail
    have b0 := below_alloc1 w (.cells #[.int .i64 s, .slice A xs.length c] 28)
    have x0 := TBox.new w s (.slice A xs.length c) 28
    generalize w.alloc (.cells #[.int .i64 s, .slice A xs.length c] 28) = w0 at *
    have HX0 := Lib.hid x0
    have HB0 := Lib.hid b0
    clear x0 b0
    have y0_0 := HX0.out.1
    have y1_0 := HX0.out.2
    go_wp2_with fail
    refine (l02Player_any s _ xs a _ (HR.out.below HB0.out)).mono ?_
    rintro e w1 ⟨rfl, hb⟩
    have HX1 := Lib.hid (HX0.out.below hb)
    have HB1 := Lib.hid (Below.then HB0.out hb)
    clear hb HX0 HB0 y0_0 y1_0
    have y0_1 := HX1.out.1
    have y1_1 := HX1.out.2
    rw [q0]
    go_wp2
    have hno := cycO_no (show cycOk s xs a k = false by first | (simp [cycOk, q0]; done) | (simp [cycOk, q1]; done))
    go_ret2
    exact ⟨.slice none 0 0, by rw [hno]; rfl, by rw [cycL, hno]; exact Own.nil_ _ _, HB1.out⟩
  have q0' := q0
  rw [Bool.and_eq_true] at q0'
  have hp := tourB_true.1 q0'.1
  have hs := hp.1
  have hsl := hp.2.1
  have ha := inB_true.1 q0'.2
  rcases q1 : inB k 3 s with _ | _
  case false =>
    go_enter Try.func10, Try.ntmps10
    go_wp2_with fail
    have b0 := below_alloc1 w (.cells #[.int .i64 s, .slice A xs.length c] 28)
    have x0 := TBox.new w s (.slice A xs.length c) 28
    generalize w.alloc (.cells #[.int .i64 s, .slice A xs.length c] 28) = w0 at *
    have HX0 := Lib.hid x0
    have HB0 := Lib.hid b0
    clear x0 b0
    have y0_0 := HX0.out.1
    have y1_0 := HX0.out.2
    go_wp2_with fail
    refine (l02Player_any s _ xs a _ (HR.out.below HB0.out)).mono ?_
    rintro e w1 ⟨rfl, hb⟩
    have HX1 := Lib.hid (HX0.out.below hb)
    have HB1 := Lib.hid (Below.then HB0.out hb)
    clear hb HX0 HB0 y0_0 y1_0
    have y0_1 := HX1.out.1
    have y1_1 := HX1.out.2
    rw [q0]
    go_wp2_with fail
    refine (l01In_any _ _ _ _).mono ?_
    rintro e wz ⟨rfl, rfl⟩
    rw [q1]
    go_wp2
    have hno := cycO_no (show cycOk s xs a k = false by first | (simp [cycOk, q0]; done) | (simp [cycOk, q1]; done))
    go_ret2
    exact ⟨.slice none 0 0, by rw [hno]; rfl, by rw [cycL, hno]; exact Own.nil_ _ _, HB1.out⟩
  have hk := inB_true.1 q1
  go_enter Try.func10, Try.ntmps10
  go_wp2_with fail
  have b0 := below_alloc1 w (.cells #[.int .i64 s, .slice A xs.length c] 28)
  have x0 := TBox.new w s (.slice A xs.length c) 28
  generalize w.alloc (.cells #[.int .i64 s, .slice A xs.length c] 28) = w0 at *
  have HX0 := Lib.hid x0
  have HB0 := Lib.hid b0
  clear x0 b0
  have y0_0 := HX0.out.1
  have y1_0 := HX0.out.2
  go_wp2_with fail
  refine (l02Player_any s _ xs a _ (HR.out.below HB0.out)).mono ?_
  rintro e w1 ⟨rfl, hb⟩
  have HX1 := Lib.hid (HX0.out.below hb)
  have HB1 := Lib.hid (Below.then HB0.out hb)
  clear hb HX0 HB0 y0_0 y1_0
  have y0_1 := HX1.out.1
  have y1_1 := HX1.out.2
  rw [q0]
  go_wp2_with fail
  refine (l01In_any _ _ _ _).mono ?_
  rintro e wz ⟨rfl, rfl⟩
  rw [q1]
  obtain ⟨i, rfl⟩ := Int.eq_ofNat_of_zero_le ha.1
  obtain ⟨q, rfl⟩ := Int.eq_ofNat_of_zero_le (show 0 ≤ k by omega)
  have hO : Hid (cycO s xs i q = dfs xs xs.length (cwA xs i) (q - 1) [i]) := by unfold Hid cycO cycOk; rw [q0, q1]; rfl
  obtain ⟨n, rfl⟩ := Int.eq_ofNat_of_zero_le (show 0 ≤ s by omega)
  have HRD := Lib.hid ((HR.out.below HB1.out).below (below_alloc1 w1 (.cells #[.int .i64 i] 3)))
  have HOL := Lib.hid (show Own (w1.alloc (.cells #[.int .i64 i] 3)) w1.heap.size (.slice (some ⟨w1.heap.size, 0, none⟩) 1 1) (nI [i]) from Own.lit w1 w1.heap.size [(i : Int)] (Nat.le_refl _) (by simp))
  have HP := Lib.hid hp
  clear q0 q1 q0' hp
  go_wp2_with fail
  refine (l06Cycle_any n _ xs HP.out q i (by omega) (q - 1) [i] w1.heap.size _ _ HRD.out (by simp) HOL.out (by simp) (by simp; omega) (fun x hx => by simp at hx; omega) rfl).mono ?_
  rintro e w3 ⟨v3, rfl, hs3, hn3, hb3⟩
  have HB3 := Lib.hid (Below.then (HB1.out.alloc HB1.out.size _) hb3)
  have HS3 := Lib.hid hs3
  have HN3 := Lib.hid hn3
  clear hb3 hs3 hn3
  have hq1 : 0 < q - 1 := by omega
  go_wp2
  go_ret2
  refine ⟨v3, by rw [hO.out]; rfl, ?_, HB3.out⟩
  rw [cycL, hO.out]
  rcases hd : dfs xs xs.length (cwA xs i) (q - 1) [i] with _ | L
  · have := HN3.out hq1 hd
    subst this
    exact Own.nil_ _ _
  · exact (HS3.out L hd).mono HB1.out.size
end Go.Proofs.Ytkcffjojklmbpab
