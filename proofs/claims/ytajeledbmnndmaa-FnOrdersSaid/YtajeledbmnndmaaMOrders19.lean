/- Texts put together: LFnOrders. -/
import Derived.Test.YtajeledbmnndmaaMOrders18
import Derived.Test.YtajeledbmnndmaaMOrders14
import Derived.Test.YtajeledbmnndmaaMOrders15
import Derived.Test.YtajeledbmnndmaaMOrders16
import Derived.Test.YtajeledbmnndmaaMOrders13
import Derived.Test.YtajeledbmnndmaaMOrders12
import Derived.Test.YtajeledbmnndmaaMOrders08
import Derived.Deep.RegionHeld3
import Derived.Deep.DeepCutAuto
namespace Go.Proofs.Ytajeledbmnndmaa
open Go.RowKit Go.Sort
set_option maxRecDepth 100000
/-- what stays while the law runs -/
structure OSt (w W : World) (bx n : Nat) (Y : Option Addr) (cy : Nat) (xs : List Int) (v0 : Value) (B : Option Addr) (bc : Nat) (l : List Nat) (O : Option Addr) (oc : Nat) : Prop where
  below : Below w.heap.size w W
  box : TBox W bx n (.slice Y n cy)
  tour : Rd W (.slice Y n cy) xs
  best : Rd W (.slice B n bc) (nI (bestO (bt xs) n))
  ord : Rd W (.slice O n oc) (nI l)
theorem OSt.next {w W W' : World} {bx n : Nat} {Y : Option Addr} {cy : Nat} {xs : List Int} {v0 : Value} {B : Option Addr} {bc : Nat} {l : List Nat} {O : Option Addr} {oc : Nat} (h : OSt w W bx n Y cy xs v0 B bc l O oc) (hb : Below W.heap.size W W') : OSt w W' bx n Y cy xs v0 B bc l O oc :=
  ⟨Below.then h.below hb, h.box.below hb, h.tour.below hb, h.best.below hb, h.ord.below hb⟩
/-- what the law has made beside: the improved order, the straightened tour, the reversed games -/
structure OSu (W : World) (n : Nat) (xs : List Int) (l x : List Nat) (X : Option Addr) (xc bu : Nat) (U : Option Addr) (uc : Nat) (G : Option Addr) (gc c : Nat) : Prop where
  imp : Rd W (.slice X n xc) (nI x)
  box : TBox W bu n (.slice U n uc)
  str : Rd W (.slice U n uc) (strL xs (bgN (bt xs) n l))
  rows : RdRows W (.slice G c gc) (bgN (bt xs) n l)
theorem OSu.next {W W' : World} {n : Nat} {xs : List Int} {l x : List Nat} {X : Option Addr} {xc bu : Nat} {U : Option Addr} {uc : Nat} {G : Option Addr} {gc c : Nat} (h : OSu W n xs l x X xc bu U uc G gc c) (hb : Below W.heap.size W W') : OSu W' n xs l x X xc bu U uc G gc c :=
  ⟨h.imp.below hb, h.box.below hb, h.str.below hb, h.rows.below hb⟩
theorem RdRows.at_ {w : World} {G : Option Addr} {c gc : Nat} {rows : List (List Int)} (h : RdRows w (.slice G c gc) rows) (hl : rows.length = c) (h0 : 0 < c) : ∃ g, G = some ⟨g, 0, none⟩ ∧ g < w.heap.size ∧ ∀ k, k < c → ∃ u, w.cell? ⟨g, k, none⟩ = some u ∧ Rd w u (rows.getD k []) := by
  obtain ⟨A', c', e, -, -, hx⟩ := h
  injection e with e1 e2 e3
  subst e1
  rw [hl] at hx
  obtain ⟨g, e4, hg, hk⟩ := hx h0
  exact ⟨g, e4, hg, hk⟩
theorem rd_two {w : World} {u : Value} {a b : Int} (h : Rd w u [a, b]) : ∃ g off d, u = .slice (some ⟨g, off, none⟩) 2 d ∧ 2 ≤ d ∧ d ≤ maxLen ∧ w.cell? ⟨g, off, none⟩ = some (.int .i64 a) ∧ w.cell? ⟨g, off + 1, none⟩ = some (.int .i64 b) := by
  obtain ⟨A', c', e, h1, h2, hx⟩ := h
  obtain ⟨g, off, rfl, -, hk⟩ := hx (by simp)
  exact ⟨g, off, c', e, h1, h2, hk 0 (by simp), hk 1 (by simp)⟩
theorem back_sum {n rb c : Nat} (h7 : n ≤ 6) (h : 2 * (rb + c) + n = n * n) : wrap64 (wrap64 ((wrap64 ((n : Int) * ((n : Int) - 1))).tdiv 2) - (c : Int)) = (rb : Int) := by
  have hn : n * n ≤ 6 * 6 := Nat.mul_le_mul h7 h7
  have e : (n : Int) * ((n : Int) - 1) = ((2 * (rb + c) : Nat) : Int) := by
    have e1 : ((n * n : Nat) : Int) = (n : Int) * (n : Int) := by push_cast; rfl
    rw [Int.mul_sub, ← e1, ← h]
    push_cast
    omega
  rw [e, IntWalk.wrap64_in ((2 * (rb + c) : Nat) : Int) (by omega)]
  have e2 : ((2 * (rb + c) : Nat) : Int).tdiv 2 = ((rb + c : Nat) : Int) := by
    rw [Int.tdiv_eq_ediv_of_nonneg (by omega)]; omega
  rw [e2, IntWalk.wrap64_in ((rb + c : Nat) : Int) (by omega), IntWalk.wrap64_in _ (by omega)]
  omega
set_option maxHeartbeats 4000000 in
theorem lawFnOrders (v0 : Value) (w : World) (h0 : BytesV w w.heap.size v0) :
    Calls Try.prog 8 #[v0] w fun e w' => e = .returned (.bool true) ∧ Below w.heap.size w w' := by
  have HV := Lib.hid h0
  obtain ⟨A0, k0, c0, rfl, hk0, hc0, -⟩ := h0
  unfold maxLen at hc0
  by_cases hn0 : k0 ≤ 1048576
  case neg =>
    have hd0 : decide ((1048576 : Int) < (k0 : Int)) = true := by simp; omega
    go_enter Try.func8, Try.ntmps8
    go_wp2
    go_ret
    exact ⟨rfl, Below.refl _ _⟩
  have hd0 : decide ((1048576 : Int) < (k0 : Int)) = false := by simp; omega
  go_enter Try.func8, Try.ntmps8
  go_wp2_with fail
  refine (makeTour_any w (.slice A0 k0 c0) 0 6 0 6 rfl rfl (by omega) (by omega) (by omega) HV.out).mono ?_
  rintro e w1 ⟨n, sl, xs, rfl, hn7, hp, ho, hb⟩
  obtain ⟨Y, cy, rfl, -, hcy, -⟩ := ho.form
  have HP := Lib.hid hp
  have hn1 : 1 ≤ n := by have := hp.1; omega
  rw [tour_len hp] at *
  have bb := below_alloc1 w1 (.cells #[.int .i64 n, .slice Y n cy] 28)
  obtain ⟨bx, hbx⟩ : ∃ bx, bx = w1.heap.size := ⟨_, rfl⟩
  have HB2 := Lib.hid (Below.then hb bb)
  have HX2 := Lib.hid (show TBox (w1.alloc (.cells #[.int .i64 n, .slice Y n cy] 28)) bx n (.slice Y n cy) by rw [hbx]; exact TBox.new w1 n (.slice Y n cy) 28)
  have HT2 := Lib.hid (ho.rd.below bb)
  clear ho hb hp bb
  go_wp2_with fail
  rw [← hbx]
  generalize w1.alloc (.cells #[.int .i64 n, .slice Y n cy] 28) = w2 at *
  clear hbx
  have y0 := HX2.out.1
  have y1 := HX2.out.2
  obtain ⟨BO1, BO2⟩ := bestO_law (r := bt xs) (n := n) (bt_irr HP.out)
  have hbl : (nI (bestO (bt xs) n)).length = n := by rw [nI_len]; exact (mem_ordL.1 BO1).1
  have HBO1 := Lib.hid BO1
  have HBO2 := Lib.hid BO2
  go_wp2_with fail
  refine (cBestO HP.out HT2.out).mono ?_
  rintro e w3 ⟨vb, rfl, ho3, hb3⟩
  obtain ⟨B, bc, rfl, -⟩ := ho3.form
  rw [hbl] at ho3 ⊢
  have HB3 := Lib.hid (Below.then HB2.out hb3)
  have HX3 := Lib.hid (HX2.out.below hb3)
  have HT3 := Lib.hid (HT2.out.below hb3)
  have HO3 := Lib.hid ho3.rd
  clear ho3 hb3 HX2 HT2 HB2 y0 y1 BO1 BO2 hbl
  have y0 := HX3.out.1
  have y1 := HX3.out.2
  go_wp2_with fail
  refine (cFew HP.out HT3.out).mono ?_
  rintro e w4 ⟨rfl, hb4⟩
  have HB4 := Lib.hid (Below.then HB3.out hb4)
  have HX4 := Lib.hid (HX3.out.below hb4)
  have HT4 := Lib.hid (HT3.out.below hb4)
  have HO4 := Lib.hid (HO3.out.below hb4)
  clear hb4 HX3 HT3 HB3 HO3 y0 y1
  obtain ⟨f, hf⟩ : ∃ f, f = fewN (bt xs) n := ⟨_, rfl⟩
  have HFE := Lib.hid hf
  rw [← hf]
  clear hf
  go_wp2_with fail
  refine (makeOrder_any w4 (.slice A0 k0 c0) 20 20 n rfl (by omega) hn1 (by omega) ((HV.out.keep (fun p hp => HB4.out.cell hp)).mono HB4.out.size)).mono ?_
  rintro e w5 ⟨so, ns, rfl, hq, ho5, hb5⟩
  obtain ⟨l, hl, rfl⟩ := perm_of hq
  have HL := Lib.hid hl
  obtain ⟨O, oc, rfl, -⟩ := ho5.form
  rw [show (nI l).length = n by rw [nI_len]; exact (mem_ordL.1 hl).1] at ho5 ⊢
  obtain ⟨og, oo, rfl⟩ := rd_at ho5.rd (by rw [nI_len]; exact (mem_ordL.1 hl).1) hn1
  have HS5 : Hid (OSt w w5 bx n Y cy xs (.slice A0 k0 c0) B bc l (some ⟨og, oo, none⟩) oc) := Lib.hid ⟨Below.then HB4.out hb5, HX4.out.below hb5, HT4.out.below hb5, HO4.out.below hb5, ho5.rd⟩
  clear hq hl ho5 hb5 HX4 HT4 HO4 HB4
  have y0 := HS5.out.box.1
  have y1 := HS5.out.box.2
  go_wp2_with fail
  refine (cRevs HP.out HS5.out.tour HL.out HS5.out.ord).mono ?_
  rintro e w6 ⟨rfl, hb6⟩
  have HS6 := Lib.hid (HS5.out.next hb6)
  clear hb6 HS5 y0 y1
  obtain ⟨c, hc⟩ : ∃ c, c = revN (bt xs) l := ⟨_, rfl⟩
  have HCE := Lib.hid hc
  have hfc : f ≤ c := by rw [HFE.out, hc]; exact (few_law (bt_irr HP.out)).2.1 l HL.out
  rw [← hc]
  clear hc
  have y0 := HS6.out.box.1
  have y1 := HS6.out.box.2
  go_wp2_with fail
  refine (cImprove HP.out HS6.out.tour HL.out HS6.out.ord).mono ?_
  rintro e w7 ⟨xg, xc, x, rfl, hx, hxs, hxl, ho7, hb7⟩
  have HXO := Lib.hid hx
  have HXS := Lib.hid hxs
  have HXL := Lib.hid hxl
  have HS7 := Lib.hid (HS6.out.next hb7)
  have HI7 := Lib.hid ho7.rd
  clear hb7 HS6 y0 y1 hx hxs hxl ho7
  have y0 := HS7.out.box.1
  have y1 := HS7.out.box.2
  go_wp2_with fail
  refine (cStraight0 HP.out HS7.out.tour HL.out HS7.out.ord).mono ?_
  rintro e w8 ⟨su, rfl, ho8, hb8⟩
  obtain ⟨hst, hsb⟩ := straight HP.out HL.out
  obtain ⟨U, uc, rfl, -⟩ := ho8.form
  rw [tour_len hst] at ho8 ⊢
  have HST := Lib.hid hst
  have bb := below_alloc1 w8 (.cells #[.int .i64 n, .slice U n uc] 28)
  obtain ⟨bu, hbu⟩ : ∃ b, b = w8.heap.size := ⟨_, rfl⟩
  have HU := Lib.hid (show TBox (w8.alloc (.cells #[.int .i64 n, .slice U n uc] 28)) bu n (.slice U n uc) by rw [hbu]; exact TBox.new w8 n (.slice U n uc) 28)
  have HUR := Lib.hid (ho8.rd.below bb)
  have HS9 := Lib.hid (HS7.out.next (Below.then hb8 bb))
  have HI9 := Lib.hid (HI7.out.below (Below.then hb8 bb))
  clear ho8 hb8 bb HS7 HI7 y0 y1 hst hsb
  have y0 := HS9.out.box.1
  have y1 := HS9.out.box.2
  go_wp2_with fail
  rw [← hbu]
  generalize w8.alloc (.cells #[.int .i64 n, .slice U n uc] 28) = w9 at *
  clear hbu
  refine (cBackGames HP.out HS9.out.tour HL.out HS9.out.ord).mono ?_
  rintro e w10 ⟨vg, rfl, ho10, hb10⟩
  obtain ⟨G, gc, rfl, -⟩ := ho10.form
  have hgl : (bgN (bt xs) n l).length = c := by rw [HCE.out]; exact bgN_len HL.out
  have HGL := Lib.hid hgl
  have hrr := ho10.rdr
  rw [hgl] at hrr ⊢
  have HS10 := Lib.hid (HS9.out.next hb10)
  have HSU10 : Hid (OSu w10 n xs l x (some ⟨xg, 0, none⟩) xc bu U uc G gc c) := Lib.hid ⟨HI9.out.below hb10, HU.out.below hb10, HUR.out.below hb10, hrr⟩
  clear ho10 hb10 HS9 HI9 HU HUR y0 y1 hgl hrr
  have y0 := HS10.out.box.1
  have y1 := HS10.out.box.2
  go_wp2_with fail
  refine (cOrderOk HP.out HS10.out.tour HBO1.out HS10.out.best).mono ?_
  rintro e w11 ⟨rfl, hb⟩
  have HS11 := Lib.hid (HS10.out.next hb)
  have HSU11 := Lib.hid (HSU10.out.next hb)
  clear hb HS10 HSU10 y0 y1
  have y0 := HS11.out.box.1
  have y1 := HS11.out.box.2
  go_wp2_with fail
  refine (cRevs HP.out HS11.out.tour HBO1.out HS11.out.best).mono ?_
  rintro e w12 ⟨rfl, hb⟩
  rw [HBO2.out, ← HFE.out]
  have HS12 := Lib.hid (HS11.out.next hb)
  have HSU12 := Lib.hid (HSU11.out.next hb)
  clear hb HS11 HSU11 y0 y1
  have y0 := HS12.out.box.1
  have y1 := HS12.out.box.2
  have d1 : decide ((c : Int) < (f : Int)) = false := decide_eq_false (by omega)
  have dn1 : decide (c < f) = false := decide_eq_false (by omega)
  go_wp2_with fail
  refine (cOrderOk HP.out HS12.out.tour HXO.out HSU12.out.imp).mono ?_
  rintro e w13 ⟨rfl, hb⟩
  have HS13 := Lib.hid (HS12.out.next hb)
  have HSU13 := Lib.hid (HSU12.out.next hb)
  clear hb HS12 HSU12 y0 y1
  have y0 := HS13.out.box.1
  have y1 := HS13.out.box.2
  go_wp2_with fail
  refine (cSettled HP.out HS13.out.tour HXO.out HSU13.out.imp).mono ?_
  rintro e w14 ⟨rfl, hb⟩
  rw [setB_true HXS.out]
  have HS14 := Lib.hid (HS13.out.next hb)
  have HSU14 := Lib.hid (HSU13.out.next hb)
  clear hb HS13 HSU13 y0 y1
  have y0 := HS14.out.box.1
  have y1 := HS14.out.box.2
  go_wp2_with fail
  refine (cRevs HP.out HS14.out.tour HXO.out HSU14.out.imp).mono ?_
  rintro e w15 ⟨rfl, hb⟩
  have HS15 := Lib.hid (HS14.out.next hb)
  have HSU15 := Lib.hid (HSU14.out.next hb)
  clear hb HS14 HSU14 y0 y1
  have hcx : revN (bt xs) x ≤ c := by
    rw [HCE.out]
    rcases HXL.out with rfl | ⟨-, h⟩
    · exact Nat.le_refl _
    · omega
  have hfx : f ≤ revN (bt xs) x := by rw [HFE.out]; exact (few_law (bt_irr HP.out)).2.1 x HXO.out
  obtain ⟨cx, hce⟩ : ∃ cx, cx = revN (bt xs) x := ⟨_, rfl⟩
  have HCX := Lib.hid hce
  rw [← hce] at hcx hfx ⊢
  clear hce
  have d2 : decide ((c : Int) < (cx : Int)) = false := decide_eq_false (by omega)
  have d3 : decide ((cx : Int) < (f : Int)) = false := decide_eq_false (by omega)
  have dn2 : decide (c < cx) = false := decide_eq_false (by omega)
  have dn3 : decide (cx < f) = false := decide_eq_false (by omega)
  have y0 := HS15.out.box.1
  have y1 := HS15.out.box.2
  go_wp2_with fail
  refine (cRevs HP.out HS15.out.tour HXO.out HSU15.out.imp).mono ?_
  rintro e w16 ⟨rfl, hb⟩
  rw [← HCX.out]
  have HS16 := Lib.hid (HS15.out.next hb)
  have HSU16 := Lib.hid (HSU15.out.next hb)
  clear hb HS15 HSU15 y0 y1
  have y0 := HS16.out.box.1
  have y1 := HS16.out.box.2
  go_wp2_with fail
  refine (cSettled HP.out HS16.out.tour HBO1.out HS16.out.best).mono ?_
  rintro e w17 ⟨rfl, hb⟩
  rw [setB_true (best_settled HP.out)]
  have HS17 := Lib.hid (HS16.out.next hb)
  have HSU17 := Lib.hid (HSU16.out.next hb)
  clear hb HS16 HSU16 y0 y1
  have x0 := HSU17.out.box.1
  have x1 := HSU17.out.box.2
  go_wp2_with fail
  refine (cTrans HST.out HSU17.out.str).mono ?_
  rintro e w18 ⟨rfl, hb⟩
  rw [trB_iff.2 (straight_trans HP.out HL.out)]
  have HS18 := Lib.hid (HS17.out.next hb)
  have HSU18 := Lib.hid (HSU17.out.next hb)
  clear hb HS17 HSU17 x0 x1
  have y0 := HS18.out.box.1
  have y1 := HS18.out.box.2
  have x0 := HSU18.out.box.1
  have x1 := HSU18.out.box.2
  go_wp2_with fail
  refine (cDiff HP.out HS18.out.tour HST.out HSU18.out.str).mono ?_
  rintro e w19 ⟨rfl, hb⟩
  rw [df_straight HP.out HL.out, ← HCE.out]
  have HS19 := Lib.hid (HS18.out.next hb)
  have HSU19 := Lib.hid (HSU18.out.next hb)
  clear hb HS18 HSU18 x0 x1 y0 y1
  have x0 := HSU19.out.box.1
  have x1 := HSU19.out.box.2
  go_wp2_with fail
  refine (cRevs HST.out HSU19.out.str HL.out HS19.out.ord).mono ?_
  rintro e w20 ⟨rfl, hb⟩
  rw [straight_zero HP.out HL.out]
  have HS20 := Lib.hid (HS19.out.next hb)
  have HSU20 := Lib.hid (HSU19.out.next hb)
  clear hb HS19 HSU19 x0 x1
  go_wp2
  have hRl : (nI l.reverse).length = n := by rw [nI_len, List.length_reverse]; exact (mem_ordL.1 HL.out).1
  have HRT : Hid (∀ i, i < n → (nI l.reverse).take (n - i) = (nI l.reverse).take (n - (i + 1)) ++ [(nI l).getD i 0]) := Lib.hid fun i hi => by
    have hk : n - (i + 1) < (nI l.reverse).length := by omega
    have e : n - i = n - (i + 1) + 1 := by omega
    rw [e, List.take_succ_eq_append_getElem hk]
    congr 1
    have hll : (nI l).length = n := by rw [nI_len]; exact (mem_ordL.1 HL.out).1
    have e2 : (nI l).getD i 0 = (nI l)[i]'(by omega) := by simp [List.getD_eq_getElem?_getD, show i < (nI l).length by omega]
    rw [e2]
    have e3 : nI l.reverse = (nI l).reverse := (rev_nI l).symm
    congr 1
    simp only [e3]
    rw [List.getElem_reverse]
    congr 1
    omega
  have HRF : Hid ((nI l.reverse).take n = nI l.reverse) := Lib.hid (List.take_of_length_le (by omega))
  have HR0 : Hid ((nI l.reverse).take (n - n) = []) := Lib.hid (by rw [Nat.sub_self, List.take_zero])
  have HRL : Hid (∀ k, ((nI l.reverse).take k).length ≤ 8) := Lib.hid fun k => by rw [List.length_take]; omega
  generalize hRe : nI l.reverse = R at *
  have HRE := Lib.hid hRe
  clear hRe
  have oL := Own.lit w20 w20.heap.size [] (Nat.le_refl _) (by simp)
  have HOL := Lib.hid oL
  have HBL := Lib.hid (below_alloc1 w20 (.cells #[] 3))
  clear oL
  go_loopw [13, 14] (fun t13 t14 wr => ∃ j : Nat, j ≤ n ∧ t14 = .int .i64 ((j : Int) - 1) ∧ Hid (Own wr w20.heap.size t13 (R.take (n - j))) ∧ Hid (Below w20.heap.size w20 wr)) (fun _ t14 _ => (intOf t14 + 1).toNat)
  case atStart => exact ⟨n, by omega, by go_num, by rw [HR0.out]; exact HOL, HBL⟩
  case round =>
    obtain ⟨wa, rfl⟩ : ∃ x, x = wr := ⟨_, rfl⟩
    obtain ⟨j, hj, rfl, HO, HB⟩ := hrel
    clear HOL HBL
    rcases Nat.eq_zero_or_pos j with hj0 | hj0
    case inr =>
      as_aux_lemma =>
      obtain ⟨i, rfl⟩ : ∃ i, j = i + 1 := ⟨j - 1, by omega⟩
      have ei : ((i + 1 : Nat) : Int) - 1 = (i : Int) := by omega
      rw [ei]
      have zi := rd_cell (HS20.out.next HB.out).ord (by rw [nI_len]; exact (mem_ordL.1 HL.out).1) (i := i) (by omega)
      have hst := HRT.out i (by omega)
      generalize (nI l).getD i 0 = y at *
      have HST2 := Lib.hid hst
      have hlen : (R.take (n - (i + 1))).length ≤ 1099511627776 := by have := HRL.out (n - (i + 1)); omega
      have hO1 := HO.out
      have hszz := HB.out.size
      have bx1 := below_alloc1 wa (.cells #[.int .i64 y] 3)
      clear hst bx1
      go_wp2_with (at_builtin; refine wp_append1 wa rfl (.tmp 133) (.tmp 138) rfl w20.heap.size _ _ _ rfl hO1 (by simp [Act.eval]) hlen hszz ?_; intro v' w7 ho7 hg7; have HO7 := Lib.hid ho7; have HB7 := Lib.hid (HB.out.grown hg7 hszz (fun k hk => (hO1.lt k hk).1)); clear ho7 hg7)
      go_roundw
      case rel => exact ⟨i, by omega, by go_num, by rw [HST2.out]; exact HO7, HB7⟩
      case measure => simp [intOf]
    case inl =>
      subst hj0
      rw [Nat.sub_zero, HRF.out] at HO
      have e0 : (((0 : Nat) : Int) - 1) = -1 := rfl
      rw [e0]
      clear e0
      have HSa := Lib.hid (HS20.out.next HB.out)
      have HSUa := Lib.hid (HSU20.out.next HB.out)
      have HRa := Lib.hid HO.out.rd
      clear HS20 HSU20 HO HB
      go_wp2
      have hc64 : c ≤ 64 := by
        rw [← HGL.out]
        have h1 := bgTo_len (bt xs) n l n
        have h2 : n * n ≤ 6 * 6 := Nat.mul_le_mul hn7 hn7
        unfold bgN; omega
      go_loopw [142] (fun t142 wr => ∃ i : Nat, i ≤ c ∧ t142 = .int .i64 i ∧ Hid (Below wa.heap.size wa wr)) (fun t142 _ => c - (intOf t142).toNat)
      case atStart => exact ⟨0, by omega, rfl, Lib.hid (Below.refl _ _)⟩
      case round =>
        obtain ⟨wi, rfl⟩ : ∃ x, x = wr := ⟨_, rfl⟩
        obtain ⟨i, hi, rfl, HBi⟩ := hrel
        have HSi := Lib.hid (HSa.out.next HBi.out)
        have HSUi := Lib.hid (HSUa.out.next HBi.out)
        by_cases hlt : i < c
        · as_aux_lemma =>
          -- heavy
          obtain ⟨gg, rfl, hgg, hrow⟩ := HSUi.out.rows.at_ HGL.out (by omega)
          obtain ⟨u, zu, hru⟩ := hrow i hlt
          obtain ⟨a, b, eab, ha, hb, hba, hbu⟩ := row_back HP.out HL.out (i := i) (by rw [HGL.out]; exact hlt)
          have HRI : Hid (Rd wi u ((bgN (bt xs) n l).getD i [])) := Lib.hid hru
          rw [eab] at hru
          obtain ⟨rg, ro, rd, rfl, hrd1, hrd2, z0, z1⟩ := rd_two hru
          unfold maxLen at hrd2
          have HBEF : Hid (0 < i → befI ((bgN (bt xs) n l).getD (i - 1) []) ((bgN (bt xs) n l).getD i []) = true) := Lib.hid fun h => row_bef (by omega) h (by rw [HGL.out]; exact hlt)
          have HPREV : Hid (0 < i → ∃ v, wi.cell? ⟨gg, i - 1, none⟩ = some v ∧ Rd wi v ((bgN (bt xs) n l).getD (i - 1) [])) := Lib.hid fun h => hrow (i - 1) (by omega)
          clear hru hrow eab
          have hgi : decide ((0 : Int) < (i : Int)) = decide (0 < i) := by rw [decide_eq_decide]; omega
          have K1 : Hid (∀ W, Below wi.heap.size wi W → Calls Try.prog 36 #[.agg #[.int .i64 n, .slice Y n cy], .int .i64 a, .int .i64 b] W fun e w' => e = .returned (.bool true) ∧ Below W.heap.size W w') := Lib.hid fun W hW => by
            have := cBeat HP.out (HSi.out.next hW).tour a b ha hb
            rwa [hba] at this
          have K2 : Hid (∀ W, Below wi.heap.size wi W → Calls Try.prog 36 #[.agg #[.int .i64 n, .slice U n uc], .int .i64 a, .int .i64 b] W fun e w' => e = .returned (.bool false) ∧ Below W.heap.size W w') := Lib.hid fun W hW => by
            have := cBeat HST.out (HSUi.out.next hW).str a b ha hb
            rwa [hbu] at this
          go_wp2_with fail
          have BB0 : Below wi.heap.size wi wi.drew := (Below.refl _ _).drew
          rcases Nat.eq_zero_or_pos i with hi0 | hi0
          case inl =>
            subst hi0
            have KP : Hid (∀ W, Below wi.heap.size wi W → ((W.cell? ⟨bx, 0, none⟩ = some (.int .i64 n) ∧ W.cell? ⟨bx, 1, none⟩ = some (.slice Y n cy)) ∧ (W.cell? ⟨bu, 0, none⟩ = some (.int .i64 n) ∧ W.cell? ⟨bu, 1, none⟩ = some (.slice U n uc)) ∧ W.cell? ⟨rg, ro, none⟩ = some (.int .i64 a) ∧ W.cell? ⟨rg, ro + 1, none⟩ = some (.int .i64 b))) := Lib.hid fun W hW => (⟨(HSi.out.next hW).box, (HSUi.out.next hW).box, (hW.cell (World.block_lt_of_cell? _ _ z0)).trans z0, (hW.cell (World.block_lt_of_cell? _ _ z1)).trans z1⟩)
            clear z0 z1 zu
            refine wp_region_held_drew (S := fun W => (W.cell? ⟨bx, 0, none⟩ = some (.int .i64 n) ∧ W.cell? ⟨bx, 1, none⟩ = some (.slice Y n cy)) ∧ (W.cell? ⟨bu, 0, none⟩ = some (.int .i64 n) ∧ W.cell? ⟨bu, 1, none⟩ = some (.slice U n uc)) ∧ W.cell? ⟨rg, ro, none⟩ = some (.int .i64 a) ∧ W.cell? ⟨rg, ro + 1, none⟩ = some (.int .i64 b)) (by kernel_rfl) (KP.out _ BB0) (fun hS0 => ?_)
            refine hTake (i := 0) (v := ?v0_1) rfl (by kernel_rfl) (by kernel_rfl) (by kernel_rfl) (fun _ _ _ h => h) (Or.inl ⟨by rfl, ?hy0_1⟩) hS0 ?rest0_1
            case hy0_1 =>
              intro W hSw
              (try dsimp only at hSw)
              go_simp
              first | done | (with_reducible rfl)
            try simp only [Act.put, List.setIfInBounds_toArray, List.set_cons_zero, List.set_cons_succ]
            refine hTake (i := 1) (v := ?v1_2) rfl (by kernel_rfl) (by kernel_rfl) (by kernel_rfl) (fun _ _ _ h => h) (Or.inl ⟨by rfl, ?hy1_2⟩) hS0 ?rest1_2
            case hy1_2 =>
              intro W hSw
              (try dsimp only at hSw)
              go_simp
              first | done | (with_reducible rfl)
            try simp only [Act.put, List.setIfInBounds_toArray, List.set_cons_zero, List.set_cons_succ]
            refine hTake (i := 2) (v := ?v2_3) rfl (by kernel_rfl) (by kernel_rfl) (by kernel_rfl) (fun _ _ _ h => h) (Or.inl ⟨by rfl, ?hy2_3⟩) hS0 ?rest2_3
            case hy2_3 =>
              intro W hSw
              (try dsimp only at hSw)
              go_simp
              first | done | (with_reducible rfl)
            try simp only [Act.put, List.setIfInBounds_toArray, List.set_cons_zero, List.set_cons_succ]
            refine hTake (i := 3) (v := ?v3_4) rfl (by kernel_rfl) (by kernel_rfl) (by kernel_rfl) (fun _ _ _ h => h) (Or.inl ⟨by rfl, ?hy3_4⟩) hS0 ?rest3_4
            case hy3_4 =>
              intro W hSw
              (try dsimp only at hSw)
              go_simp
              first | done | (with_reducible rfl)
            try simp only [Act.put, List.setIfInBounds_toArray, List.set_cons_zero, List.set_cons_succ]
            refine hTake (i := 4) (v := ?v4_5) rfl (by kernel_rfl) (by kernel_rfl) (by kernel_rfl) (fun _ _ _ h => h) (Or.inl ⟨by rfl, ?hy4_5⟩) hS0 ?rest4_5
            case hy4_5 =>
              intro W hSw
              (try dsimp only at hSw)
              go_simp
              first | done | (with_reducible rfl)
            try simp only [Act.put, List.setIfInBounds_toArray, List.set_cons_zero, List.set_cons_succ]
            refine hTake (i := 5) (v := ?v5_6) rfl (by kernel_rfl) (by kernel_rfl) (by kernel_rfl) (fun _ _ _ h => h) (Or.inl ⟨by rfl, ?hy5_6⟩) hS0 ?rest5_6
            case hy5_6 =>
              intro W hSw
              (try dsimp only at hSw)
              go_simp
              first | done | (with_reducible rfl)
            try simp only [Act.put, List.setIfInBounds_toArray, List.set_cons_zero, List.set_cons_succ]
            refine hTake (i := 6) (v := ?v6_7) rfl (by kernel_rfl) (by kernel_rfl) (by kernel_rfl) (fun _ _ _ h => h) (Or.inl ⟨by rfl, ?hy6_7⟩) hS0 ?rest6_7
            case hy6_7 =>
              intro W hSw
              (try dsimp only at hSw)
              go_simp
              first | done | (with_reducible rfl)
            try simp only [Act.put, List.setIfInBounds_toArray, List.set_cons_zero, List.set_cons_succ]
            refine hTake (i := 7) (v := ?v7_8) rfl (by kernel_rfl) (by kernel_rfl) (by kernel_rfl) (fun _ _ _ h => h) (Or.inl ⟨by rfl, ?hy7_8⟩) hS0 ?rest7_8
            case hy7_8 =>
              intro W hSw
              (try dsimp only at hSw)
              go_simp
              first | done | (with_reducible rfl)
            try simp only [Act.put, List.setIfInBounds_toArray, List.set_cons_zero, List.set_cons_succ]
            refine hTake (i := 8) (v := ?v8_9) rfl (by kernel_rfl) (by kernel_rfl) (by kernel_rfl) (fun _ _ _ h => h) (Or.inl ⟨by rfl, ?hy8_9⟩) hS0 ?rest8_9
            case hy8_9 =>
              intro W hSw
              (try dsimp only at hSw)
              go_simp
              first | done | (with_reducible rfl)
            try simp only [Act.put, List.setIfInBounds_toArray, List.set_cons_zero, List.set_cons_succ]
            refine hTake (i := 9) (v := ?v9_10) rfl (by kernel_rfl) (by kernel_rfl) (by kernel_rfl) (fun _ _ _ h => h) (Or.inl ⟨by rfl, ?hy9_10⟩) hS0 ?rest9_10
            case hy9_10 =>
              intro W hSw
              (try dsimp only at hSw)
              go_simp
              first | done | (with_reducible rfl)
            try simp only [Act.put, List.setIfInBounds_toArray, List.set_cons_zero, List.set_cons_succ]
            refine hTake (i := 10) (v := ?v10_11) rfl (by kernel_rfl) (by kernel_rfl) (by kernel_rfl) (fun _ _ _ h => h) (Or.inl ⟨by rfl, ?hy10_11⟩) hS0 ?rest10_11
            case hy10_11 =>
              intro W hSw
              (try dsimp only at hSw)
              go_simp
              first | done | (with_reducible rfl)
            try simp only [Act.put, List.setIfInBounds_toArray, List.set_cons_zero, List.set_cons_succ]
            refine wpAnyH_ready (rs := [11]) (by kernel_rfl) (by simp) ?_
            refine hStep (i := 11) rfl (fun K hK => ?_) AllReadyH.nil
            go_simp; go_at_call 36; refine (K1.out _ BB0).mono ?_; rintro e v1 ⟨rfl, hb⟩; have BB1 := Below.then BB0 hb; clear hb; try go_wp2_with fail
            refine hK.out _ _ ?_ (fun hS1 => ?_)
            · (try dsimp only); exact KP.out _ BB1
            clear hK K
            try simp only [Act.put, List.setIfInBounds_toArray, List.set_cons_zero, List.set_cons_succ]
            refine hTake (i := 12) (v := ?v12_12) rfl (by kernel_rfl) (by kernel_rfl) (by kernel_rfl) (fun _ _ _ h => h) (Or.inl ⟨by rfl, ?hy12_12⟩) hS1 ?rest12_12
            case hy12_12 =>
              intro W hSw
              (try dsimp only at hSw)
              go_simp
              first | done | (with_reducible rfl)
            try simp only [Act.put, List.setIfInBounds_toArray, List.set_cons_zero, List.set_cons_succ]
            refine hTake (i := 13) (v := ?v13_13) rfl (by kernel_rfl) (by kernel_rfl) (by kernel_rfl) (fun _ _ _ h => h) (Or.inl ⟨by rfl, ?hy13_13⟩) hS1 ?rest13_13
            case hy13_13 =>
              intro W hSw
              (try dsimp only at hSw)
              go_simp
              first | done | (with_reducible rfl)
            try simp only [Act.put, List.setIfInBounds_toArray, List.set_cons_zero, List.set_cons_succ]
            refine hTake (i := 14) (v := ?v14_14) rfl (by kernel_rfl) (by kernel_rfl) (by kernel_rfl) (fun _ _ _ h => h) (Or.inl ⟨by rfl, ?hy14_14⟩) hS1 ?rest14_14
            case hy14_14 =>
              intro W hSw
              (try dsimp only at hSw)
              go_simp
              first | done | (with_reducible rfl)
            try simp only [Act.put, List.setIfInBounds_toArray, List.set_cons_zero, List.set_cons_succ]
            refine hTake (i := 15) (v := ?v15_15) rfl (by kernel_rfl) (by kernel_rfl) (by kernel_rfl) (fun _ _ _ h => h) (Or.inl ⟨by rfl, ?hy15_15⟩) hS1 ?rest15_15
            case hy15_15 =>
              intro W hSw
              (try dsimp only at hSw)
              go_simp
              first | done | (with_reducible rfl)
            try simp only [Act.put, List.setIfInBounds_toArray, List.set_cons_zero, List.set_cons_succ]
            refine hTake (i := 16) (v := ?v16_16) rfl (by kernel_rfl) (by kernel_rfl) (by kernel_rfl) (fun _ _ _ h => h) (Or.inl ⟨by rfl, ?hy16_16⟩) hS1 ?rest16_16
            case hy16_16 =>
              intro W hSw
              (try dsimp only at hSw)
              go_simp
              first | done | (with_reducible rfl)
            try simp only [Act.put, List.setIfInBounds_toArray, List.set_cons_zero, List.set_cons_succ]
            refine hTake (i := 17) (v := ?v17_17) rfl (by kernel_rfl) (by kernel_rfl) (by kernel_rfl) (fun _ _ _ h => h) (Or.inl ⟨by rfl, ?hy17_17⟩) hS1 ?rest17_17
            case hy17_17 =>
              intro W hSw
              (try dsimp only at hSw)
              go_simp
              first | done | (with_reducible rfl)
            try simp only [Act.put, List.setIfInBounds_toArray, List.set_cons_zero, List.set_cons_succ]
            refine hTake (i := 18) (v := ?v18_18) rfl (by kernel_rfl) (by kernel_rfl) (by kernel_rfl) (fun _ _ _ h => h) (Or.inl ⟨by rfl, ?hy18_18⟩) hS1 ?rest18_18
            case hy18_18 =>
              intro W hSw
              (try dsimp only at hSw)
              go_simp
              first | done | (with_reducible rfl)
            try simp only [Act.put, List.setIfInBounds_toArray, List.set_cons_zero, List.set_cons_succ]
            refine hTake (i := 19) (v := ?v19_19) rfl (by kernel_rfl) (by kernel_rfl) (by kernel_rfl) (fun _ _ _ h => h) (Or.inl ⟨by rfl, ?hy19_19⟩) hS1 ?rest19_19
            case hy19_19 =>
              intro W hSw
              (try dsimp only at hSw)
              go_simp
              first | done | (with_reducible rfl)
            try simp only [Act.put, List.setIfInBounds_toArray, List.set_cons_zero, List.set_cons_succ]
            refine hTake (i := 20) (v := ?v20_20) rfl (by kernel_rfl) (by kernel_rfl) (by kernel_rfl) (fun _ _ _ h => h) (Or.inl ⟨by rfl, ?hy20_20⟩) hS1 ?rest20_20
            case hy20_20 =>
              intro W hSw
              (try dsimp only at hSw)
              go_simp
              first | done | (with_reducible rfl)
            try simp only [Act.put, List.setIfInBounds_toArray, List.set_cons_zero, List.set_cons_succ]
            refine hTake (i := 21) (v := ?v21_21) rfl (by kernel_rfl) (by kernel_rfl) (by kernel_rfl) (fun _ _ _ h => h) (Or.inl ⟨by rfl, ?hy21_21⟩) hS1 ?rest21_21
            case hy21_21 =>
              intro W hSw
              (try dsimp only at hSw)
              go_simp
              first | done | (with_reducible rfl)
            try simp only [Act.put, List.setIfInBounds_toArray, List.set_cons_zero, List.set_cons_succ]
            refine wpAnyH_ready (rs := [22]) (by kernel_rfl) (by simp) ?_
            refine hStep (i := 22) rfl (fun K hK => ?_) AllReadyH.nil
            go_simp; go_at_call 36; refine (K2.out _ BB1).mono ?_; rintro e v2 ⟨rfl, hb⟩; have BB2 := Below.then BB1 hb; clear hb; try go_wp2_with fail
            refine hK.out _ _ ?_ (fun hS2 => ?_)
            · (try dsimp only); exact KP.out _ BB2
            clear hK K
            try simp only [Act.put, List.setIfInBounds_toArray, List.set_cons_zero, List.set_cons_succ]
            refine hTake (i := 23) (v := ?v23_22) rfl (by kernel_rfl) (by kernel_rfl) (by kernel_rfl) (fun _ _ _ h => h) (Or.inl ⟨by rfl, ?hy23_22⟩) hS2 ?rest23_22
            case hy23_22 =>
              intro W hSw
              (try dsimp only at hSw)
              go_simp
              first | done | (with_reducible rfl)
            try simp only [Act.put, List.setIfInBounds_toArray, List.set_cons_zero, List.set_cons_succ]
            refine hTake (i := 24) (v := ?v24_23) rfl (by kernel_rfl) (by kernel_rfl) (by kernel_rfl) (fun _ _ _ h => h) (Or.inl ⟨by rfl, ?hy24_23⟩) hS2 ?rest24_23
            case hy24_23 =>
              intro W hSw
              (try dsimp only at hSw)
              go_simp
              first | done | (with_reducible rfl)
            try simp only [Act.put, List.setIfInBounds_toArray, List.set_cons_zero, List.set_cons_succ]
            refine hTake (i := 25) (v := ?v25_24) rfl (by kernel_rfl) (by kernel_rfl) (by kernel_rfl) (fun _ _ _ h => h) (Or.inl ⟨by rfl, ?hy25_24⟩) hS2 ?rest25_24
            case hy25_24 =>
              intro W hSw
              (try dsimp only at hSw)
              go_simp
              first | done | (with_reducible rfl)
            try simp only [Act.put, List.setIfInBounds_toArray, List.set_cons_zero, List.set_cons_succ]
            refine hTake (i := 26) (v := ?v26_25) rfl (by kernel_rfl) (by kernel_rfl) (by kernel_rfl) (fun _ _ _ h => h) (Or.inl ⟨by rfl, ?hy26_25⟩) hS2 ?rest26_25
            case hy26_25 =>
              intro W hSw
              (try dsimp only at hSw)
              go_simp
              first | done | (with_reducible rfl)
            try simp only [Act.put, List.setIfInBounds_toArray, List.set_cons_zero, List.set_cons_succ]
            refine hTake (i := 27) (v := ?v27_26) rfl (by kernel_rfl) (by kernel_rfl) (by kernel_rfl) (fun _ _ _ h => h) (Or.inl ⟨by rfl, ?hy27_26⟩) hS2 ?rest27_26
            case hy27_26 =>
              intro W hSw
              (try dsimp only at hSw)
              go_simp
              first | done | (with_reducible rfl)
            try simp only [Act.put, List.setIfInBounds_toArray, List.set_cons_zero, List.set_cons_succ]
            refine hSkip (i := 28) rfl (by kernel_rfl) (by kernel_rfl) (by kernel_rfl) (fun _ _ _ h => h) (by first | rfl | (simp [Region.wanted, yielded, *]; done)) hS2 ?_
            try simp only [Act.put, List.setIfInBounds_toArray, List.set_cons_zero, List.set_cons_succ]
            refine hSkip (i := 29) rfl (by kernel_rfl) (by kernel_rfl) (by kernel_rfl) (fun _ _ _ h => h) (by first | rfl | (simp [Region.wanted, yielded, *]; done)) hS2 ?_
            try simp only [Act.put, List.setIfInBounds_toArray, List.set_cons_zero, List.set_cons_succ]
            refine hSkip (i := 30) rfl (by kernel_rfl) (by kernel_rfl) (by kernel_rfl) (fun _ _ _ h => h) (by first | rfl | (simp [Region.wanted, yielded, *]; done)) hS2 ?_
            try simp only [Act.put, List.setIfInBounds_toArray, List.set_cons_zero, List.set_cons_succ]
            refine hSkip (i := 31) rfl (by kernel_rfl) (by kernel_rfl) (by kernel_rfl) (fun _ _ _ h => h) (by first | rfl | (simp [Region.wanted, yielded, *]; done)) hS2 ?_
            try simp only [Act.put, List.setIfInBounds_toArray, List.set_cons_zero, List.set_cons_succ]
            refine hSkip (i := 32) rfl (by kernel_rfl) (by kernel_rfl) (by kernel_rfl) (fun _ _ _ h => h) (by first | rfl | (simp [Region.wanted, yielded, *]; done)) hS2 ?_
            try simp only [Act.put, List.setIfInBounds_toArray, List.set_cons_zero, List.set_cons_succ]
            refine hSkip (i := 33) rfl (by kernel_rfl) (by kernel_rfl) (by kernel_rfl) (fun _ _ _ h => h) (by first | rfl | (simp [Region.wanted, yielded, *]; done)) hS2 ?_
            try simp only [Act.put, List.setIfInBounds_toArray, List.set_cons_zero, List.set_cons_succ]
            refine hSkip (i := 34) rfl (by kernel_rfl) (by kernel_rfl) (by kernel_rfl) (fun _ _ _ h => h) (by first | rfl | (simp [Region.wanted, yielded, *]; done)) hS2 ?_
            try simp only [Act.put, List.setIfInBounds_toArray, List.set_cons_zero, List.set_cons_succ]
            refine hSkip (i := 35) rfl (by kernel_rfl) (by kernel_rfl) (by kernel_rfl) (fun _ _ _ h => h) (by first | rfl | (simp [Region.wanted, yielded, *]; done)) hS2 ?_
            try simp only [Act.put, List.setIfInBounds_toArray, List.set_cons_zero, List.set_cons_succ]
            refine hTake (i := 36) (v := ?v36_35) rfl (by kernel_rfl) (by kernel_rfl) (by kernel_rfl) (fun _ _ _ h => h) (Or.inl ⟨by rfl, ?hy36_35⟩) hS2 ?rest36_35
            case hy36_35 =>
              intro W hSw
              (try dsimp only at hSw)
              go_simp
              first | done | (with_reducible rfl)
            try simp only [Act.put, List.setIfInBounds_toArray, List.set_cons_zero, List.set_cons_succ]
            refine hTake (i := 37) (v := ?v37_36) rfl (by kernel_rfl) (by kernel_rfl) (by kernel_rfl) (fun _ _ _ h => h) (Or.inl ⟨by rfl, ?hy37_36⟩) hS2 ?rest37_36
            case hy37_36 =>
              intro W hSw
              (try dsimp only at hSw)
              go_simp
              first | done | (with_reducible rfl)
            try simp only [Act.put, List.setIfInBounds_toArray, List.set_cons_zero, List.set_cons_succ]
            refine wpAnyH_done (by kernel_rfl) ?_ _
            go_wp2
            go_roundw
            case rel => exact ⟨0 + 1, by omega, by go_num, Lib.hid (Below.then HBi.out BB2)⟩
            case measure => simp [intOf]; omega
          case inr =>
            obtain ⟨i, rfl⟩ : ∃ j, i = j + 1 := ⟨i - 1, by omega⟩
            obtain ⟨pv, zp, hrp⟩ := HPREV.out hi0
            rw [Nat.add_sub_cancel] at zp hrp
            have hbef := HBEF.out hi0
            rw [Nat.add_sub_cancel] at hbef
            have HRP := Lib.hid hrp
            obtain ⟨PA, pc, rfl, -, -, -⟩ := hrp
            generalize (bgN (bt xs) n l).getD i [] = rowp at *
            generalize (bgN (bt xs) n l).getD (i + 1) [] = rowi at *
            generalize rowp.length = pl at *
            have K3 : Hid (∀ W, Below wi.heap.size wi W → Calls Try.prog 49 #[.slice PA pl pc, .slice (some ⟨rg, ro, none⟩) 2 rd] W fun e w' => e = .returned (.bool true) ∧ W = w') := Lib.hid fun W hW => by
              have := lbefore_any _ _ rowp rowi W (HRP.out.below hW) (HRI.out.below hW)
              rwa [hbef] at this
            have KP : Hid (∀ W, Below wi.heap.size wi W → (((W.cell? ⟨bx, 0, none⟩ = some (.int .i64 n) ∧ W.cell? ⟨bx, 1, none⟩ = some (.slice Y n cy)) ∧ (W.cell? ⟨bu, 0, none⟩ = some (.int .i64 n) ∧ W.cell? ⟨bu, 1, none⟩ = some (.slice U n uc)) ∧ W.cell? ⟨rg, ro, none⟩ = some (.int .i64 a) ∧ W.cell? ⟨rg, ro + 1, none⟩ = some (.int .i64 b)) ∧ W.cell? ⟨gg, i, none⟩ = some (.slice PA pl pc))) := Lib.hid fun W hW => ⟨(⟨(HSi.out.next hW).box, (HSUi.out.next hW).box, (hW.cell (World.block_lt_of_cell? _ _ z0)).trans z0, (hW.cell (World.block_lt_of_cell? _ _ z1)).trans z1⟩), (hW.cell (World.block_lt_of_cell? _ _ zp)).trans zp⟩
            clear z0 z1 zu zp hbef
            have hic : i < c := by omega
            have hic2 : (i : Int) < (c : Int) := by omega
            have hic3 : (0 : Int) ≤ (i : Int) := by omega
            obtain ⟨p, hpe⟩ : ∃ p, p = i + 1 := ⟨_, rfl⟩
            have ewi : IntKind.i64.wrap ((p : Int) - 1) = (i : Int) := by rw [IntWalk.i64_in _ (by omega)]; omega
            have ewi2 : wrap64 ((p : Int) - 1) = (i : Int) := by rw [IntWalk.wrap64_in _ (by omega)]; omega
            have hip : decide ((0 : Int) < (p : Int)) = true := decide_eq_true (by omega)
            have hip2 : decide (0 < p) = true := decide_eq_true (by omega)
            have HPE := Lib.hid hpe
            rw [← hpe]
            rw [← hpe] at hlt
            clear hi0 hi hpe
            refine wp_region_held_drew (S := fun W => ((W.cell? ⟨bx, 0, none⟩ = some (.int .i64 n) ∧ W.cell? ⟨bx, 1, none⟩ = some (.slice Y n cy)) ∧ (W.cell? ⟨bu, 0, none⟩ = some (.int .i64 n) ∧ W.cell? ⟨bu, 1, none⟩ = some (.slice U n uc)) ∧ W.cell? ⟨rg, ro, none⟩ = some (.int .i64 a) ∧ W.cell? ⟨rg, ro + 1, none⟩ = some (.int .i64 b)) ∧ W.cell? ⟨gg, i, none⟩ = some (.slice PA pl pc)) (by kernel_rfl) (KP.out _ BB0) (fun hS0 => ?_)
            refine hTake (i := 0) (v := ?v0_37) rfl (by kernel_rfl) (by kernel_rfl) (by kernel_rfl) (fun _ _ _ h => h) (Or.inl ⟨by rfl, ?hy0_37⟩) hS0 ?rest0_37
            case hy0_37 =>
              intro W hSw
              (try dsimp only at hSw)
              go_simp
              first | done | (with_reducible rfl)
            try simp only [Act.put, List.setIfInBounds_toArray, List.set_cons_zero, List.set_cons_succ]
            refine hTake (i := 1) (v := ?v1_38) rfl (by kernel_rfl) (by kernel_rfl) (by kernel_rfl) (fun _ _ _ h => h) (Or.inl ⟨by rfl, ?hy1_38⟩) hS0 ?rest1_38
            case hy1_38 =>
              intro W hSw
              (try dsimp only at hSw)
              go_simp
              first | done | (with_reducible rfl)
            try simp only [Act.put, List.setIfInBounds_toArray, List.set_cons_zero, List.set_cons_succ]
            refine hTake (i := 2) (v := ?v2_39) rfl (by kernel_rfl) (by kernel_rfl) (by kernel_rfl) (fun _ _ _ h => h) (Or.inl ⟨by rfl, ?hy2_39⟩) hS0 ?rest2_39
            case hy2_39 =>
              intro W hSw
              (try dsimp only at hSw)
              go_simp
              first | done | (with_reducible rfl)
            try simp only [Act.put, List.setIfInBounds_toArray, List.set_cons_zero, List.set_cons_succ]
            refine hTake (i := 3) (v := ?v3_40) rfl (by kernel_rfl) (by kernel_rfl) (by kernel_rfl) (fun _ _ _ h => h) (Or.inl ⟨by rfl, ?hy3_40⟩) hS0 ?rest3_40
            case hy3_40 =>
              intro W hSw
              (try dsimp only at hSw)
              go_simp
              first | done | (with_reducible rfl)
            try simp only [Act.put, List.setIfInBounds_toArray, List.set_cons_zero, List.set_cons_succ]
            refine hTake (i := 4) (v := ?v4_41) rfl (by kernel_rfl) (by kernel_rfl) (by kernel_rfl) (fun _ _ _ h => h) (Or.inl ⟨by rfl, ?hy4_41⟩) hS0 ?rest4_41
            case hy4_41 =>
              intro W hSw
              (try dsimp only at hSw)
              go_simp
              first | done | (with_reducible rfl)
            try simp only [Act.put, List.setIfInBounds_toArray, List.set_cons_zero, List.set_cons_succ]
            refine hTake (i := 5) (v := ?v5_42) rfl (by kernel_rfl) (by kernel_rfl) (by kernel_rfl) (fun _ _ _ h => h) (Or.inl ⟨by rfl, ?hy5_42⟩) hS0 ?rest5_42
            case hy5_42 =>
              intro W hSw
              (try dsimp only at hSw)
              go_simp
              first | done | (with_reducible rfl)
            try simp only [Act.put, List.setIfInBounds_toArray, List.set_cons_zero, List.set_cons_succ]
            refine hTake (i := 6) (v := ?v6_43) rfl (by kernel_rfl) (by kernel_rfl) (by kernel_rfl) (fun _ _ _ h => h) (Or.inl ⟨by rfl, ?hy6_43⟩) hS0 ?rest6_43
            case hy6_43 =>
              intro W hSw
              (try dsimp only at hSw)
              go_simp
              first | done | (with_reducible rfl)
            try simp only [Act.put, List.setIfInBounds_toArray, List.set_cons_zero, List.set_cons_succ]
            refine hTake (i := 7) (v := ?v7_44) rfl (by kernel_rfl) (by kernel_rfl) (by kernel_rfl) (fun _ _ _ h => h) (Or.inl ⟨by rfl, ?hy7_44⟩) hS0 ?rest7_44
            case hy7_44 =>
              intro W hSw
              (try dsimp only at hSw)
              go_simp
              first | done | (with_reducible rfl)
            try simp only [Act.put, List.setIfInBounds_toArray, List.set_cons_zero, List.set_cons_succ]
            refine hTake (i := 8) (v := ?v8_45) rfl (by kernel_rfl) (by kernel_rfl) (by kernel_rfl) (fun _ _ _ h => h) (Or.inl ⟨by rfl, ?hy8_45⟩) hS0 ?rest8_45
            case hy8_45 =>
              intro W hSw
              (try dsimp only at hSw)
              go_simp
              first | done | (with_reducible rfl)
            try simp only [Act.put, List.setIfInBounds_toArray, List.set_cons_zero, List.set_cons_succ]
            refine hTake (i := 9) (v := ?v9_46) rfl (by kernel_rfl) (by kernel_rfl) (by kernel_rfl) (fun _ _ _ h => h) (Or.inl ⟨by rfl, ?hy9_46⟩) hS0 ?rest9_46
            case hy9_46 =>
              intro W hSw
              (try dsimp only at hSw)
              go_simp
              first | done | (with_reducible rfl)
            try simp only [Act.put, List.setIfInBounds_toArray, List.set_cons_zero, List.set_cons_succ]
            refine hTake (i := 10) (v := ?v10_47) rfl (by kernel_rfl) (by kernel_rfl) (by kernel_rfl) (fun _ _ _ h => h) (Or.inl ⟨by rfl, ?hy10_47⟩) hS0 ?rest10_47
            case hy10_47 =>
              intro W hSw
              (try dsimp only at hSw)
              go_simp
              first | done | (with_reducible rfl)
            try simp only [Act.put, List.setIfInBounds_toArray, List.set_cons_zero, List.set_cons_succ]
            refine wpAnyH_ready (rs := [11]) (by kernel_rfl) (by simp) ?_
            refine hStep (i := 11) rfl (fun K hK => ?_) AllReadyH.nil
            go_simp; go_at_call 36; refine (K1.out _ BB0).mono ?_; rintro e v1 ⟨rfl, hb⟩; have BB1 := Below.then BB0 hb; clear hb; try go_wp2_with fail
            refine hK.out _ _ ?_ (fun hS1 => ?_)
            · (try dsimp only); exact KP.out _ BB1
            clear hK K
            try simp only [Act.put, List.setIfInBounds_toArray, List.set_cons_zero, List.set_cons_succ]
            refine hTake (i := 12) (v := ?v12_48) rfl (by kernel_rfl) (by kernel_rfl) (by kernel_rfl) (fun _ _ _ h => h) (Or.inl ⟨by rfl, ?hy12_48⟩) hS1 ?rest12_48
            case hy12_48 =>
              intro W hSw
              (try dsimp only at hSw)
              go_simp
              first | done | (with_reducible rfl)
            try simp only [Act.put, List.setIfInBounds_toArray, List.set_cons_zero, List.set_cons_succ]
            refine hTake (i := 13) (v := ?v13_49) rfl (by kernel_rfl) (by kernel_rfl) (by kernel_rfl) (fun _ _ _ h => h) (Or.inl ⟨by rfl, ?hy13_49⟩) hS1 ?rest13_49
            case hy13_49 =>
              intro W hSw
              (try dsimp only at hSw)
              go_simp
              first | done | (with_reducible rfl)
            try simp only [Act.put, List.setIfInBounds_toArray, List.set_cons_zero, List.set_cons_succ]
            refine hTake (i := 14) (v := ?v14_50) rfl (by kernel_rfl) (by kernel_rfl) (by kernel_rfl) (fun _ _ _ h => h) (Or.inl ⟨by rfl, ?hy14_50⟩) hS1 ?rest14_50
            case hy14_50 =>
              intro W hSw
              (try dsimp only at hSw)
              go_simp
              first | done | (with_reducible rfl)
            try simp only [Act.put, List.setIfInBounds_toArray, List.set_cons_zero, List.set_cons_succ]
            refine hTake (i := 15) (v := ?v15_51) rfl (by kernel_rfl) (by kernel_rfl) (by kernel_rfl) (fun _ _ _ h => h) (Or.inl ⟨by rfl, ?hy15_51⟩) hS1 ?rest15_51
            case hy15_51 =>
              intro W hSw
              (try dsimp only at hSw)
              go_simp
              first | done | (with_reducible rfl)
            try simp only [Act.put, List.setIfInBounds_toArray, List.set_cons_zero, List.set_cons_succ]
            refine hTake (i := 16) (v := ?v16_52) rfl (by kernel_rfl) (by kernel_rfl) (by kernel_rfl) (fun _ _ _ h => h) (Or.inl ⟨by rfl, ?hy16_52⟩) hS1 ?rest16_52
            case hy16_52 =>
              intro W hSw
              (try dsimp only at hSw)
              go_simp
              first | done | (with_reducible rfl)
            try simp only [Act.put, List.setIfInBounds_toArray, List.set_cons_zero, List.set_cons_succ]
            refine hTake (i := 17) (v := ?v17_53) rfl (by kernel_rfl) (by kernel_rfl) (by kernel_rfl) (fun _ _ _ h => h) (Or.inl ⟨by rfl, ?hy17_53⟩) hS1 ?rest17_53
            case hy17_53 =>
              intro W hSw
              (try dsimp only at hSw)
              go_simp
              first | done | (with_reducible rfl)
            try simp only [Act.put, List.setIfInBounds_toArray, List.set_cons_zero, List.set_cons_succ]
            refine hTake (i := 18) (v := ?v18_54) rfl (by kernel_rfl) (by kernel_rfl) (by kernel_rfl) (fun _ _ _ h => h) (Or.inl ⟨by rfl, ?hy18_54⟩) hS1 ?rest18_54
            case hy18_54 =>
              intro W hSw
              (try dsimp only at hSw)
              go_simp
              first | done | (with_reducible rfl)
            try simp only [Act.put, List.setIfInBounds_toArray, List.set_cons_zero, List.set_cons_succ]
            refine hTake (i := 19) (v := ?v19_55) rfl (by kernel_rfl) (by kernel_rfl) (by kernel_rfl) (fun _ _ _ h => h) (Or.inl ⟨by rfl, ?hy19_55⟩) hS1 ?rest19_55
            case hy19_55 =>
              intro W hSw
              (try dsimp only at hSw)
              go_simp
              first | done | (with_reducible rfl)
            try simp only [Act.put, List.setIfInBounds_toArray, List.set_cons_zero, List.set_cons_succ]
            refine hTake (i := 20) (v := ?v20_56) rfl (by kernel_rfl) (by kernel_rfl) (by kernel_rfl) (fun _ _ _ h => h) (Or.inl ⟨by rfl, ?hy20_56⟩) hS1 ?rest20_56
            case hy20_56 =>
              intro W hSw
              (try dsimp only at hSw)
              go_simp
              first | done | (with_reducible rfl)
            try simp only [Act.put, List.setIfInBounds_toArray, List.set_cons_zero, List.set_cons_succ]
            refine hTake (i := 21) (v := ?v21_57) rfl (by kernel_rfl) (by kernel_rfl) (by kernel_rfl) (fun _ _ _ h => h) (Or.inl ⟨by rfl, ?hy21_57⟩) hS1 ?rest21_57
            case hy21_57 =>
              intro W hSw
              (try dsimp only at hSw)
              go_simp
              first | done | (with_reducible rfl)
            try simp only [Act.put, List.setIfInBounds_toArray, List.set_cons_zero, List.set_cons_succ]
            refine wpAnyH_ready (rs := [22]) (by kernel_rfl) (by simp) ?_
            refine hStep (i := 22) rfl (fun K hK => ?_) AllReadyH.nil
            go_simp; go_at_call 36; refine (K2.out _ BB1).mono ?_; rintro e v2 ⟨rfl, hb⟩; have BB2 := Below.then BB1 hb; clear hb; try go_wp2_with fail
            refine hK.out _ _ ?_ (fun hS2 => ?_)
            · (try dsimp only); exact KP.out _ BB2
            clear hK K
            try simp only [Act.put, List.setIfInBounds_toArray, List.set_cons_zero, List.set_cons_succ]
            refine hTake (i := 23) (v := ?v23_58) rfl (by kernel_rfl) (by kernel_rfl) (by kernel_rfl) (fun _ _ _ h => h) (Or.inl ⟨by rfl, ?hy23_58⟩) hS2 ?rest23_58
            case hy23_58 =>
              intro W hSw
              (try dsimp only at hSw)
              go_simp
              first | done | (with_reducible rfl)
            try simp only [Act.put, List.setIfInBounds_toArray, List.set_cons_zero, List.set_cons_succ]
            refine hTake (i := 24) (v := ?v24_59) rfl (by kernel_rfl) (by kernel_rfl) (by kernel_rfl) (fun _ _ _ h => h) (Or.inl ⟨by rfl, ?hy24_59⟩) hS2 ?rest24_59
            case hy24_59 =>
              intro W hSw
              (try dsimp only at hSw)
              go_simp
              first | done | (with_reducible rfl)
            try simp only [Act.put, List.setIfInBounds_toArray, List.set_cons_zero, List.set_cons_succ]
            refine hTake (i := 25) (v := ?v25_60) rfl (by kernel_rfl) (by kernel_rfl) (by kernel_rfl) (fun _ _ _ h => h) (Or.inl ⟨by rfl, ?hy25_60⟩) hS2 ?rest25_60
            case hy25_60 =>
              intro W hSw
              (try dsimp only at hSw)
              go_simp
              first | done | (with_reducible rfl)
            try simp only [Act.put, List.setIfInBounds_toArray, List.set_cons_zero, List.set_cons_succ]
            refine hTake (i := 26) (v := ?v26_61) rfl (by kernel_rfl) (by kernel_rfl) (by kernel_rfl) (fun _ _ _ h => h) (Or.inl ⟨by rfl, ?hy26_61⟩) hS2 ?rest26_61
            case hy26_61 =>
              intro W hSw
              (try dsimp only at hSw)
              go_simp
              first | done | (with_reducible rfl)
            try simp only [Act.put, List.setIfInBounds_toArray, List.set_cons_zero, List.set_cons_succ]
            refine hTake (i := 27) (v := ?v27_62) rfl (by kernel_rfl) (by kernel_rfl) (by kernel_rfl) (fun _ _ _ h => h) (Or.inl ⟨by rfl, ?hy27_62⟩) hS2 ?rest27_62
            case hy27_62 =>
              intro W hSw
              (try dsimp only at hSw)
              go_simp
              first | done | (with_reducible rfl)
            try simp only [Act.put, List.setIfInBounds_toArray, List.set_cons_zero, List.set_cons_succ]
            refine hTake (i := 28) (v := ?v28_63) rfl (by kernel_rfl) (by kernel_rfl) (by kernel_rfl) (fun _ _ _ h => h) (Or.inl ⟨by rfl, ?hy28_63⟩) hS2 ?rest28_63
            case hy28_63 =>
              intro W hSw
              (try dsimp only at hSw)
              go_simp
              first | done | (with_reducible rfl)
            try simp only [Act.put, List.setIfInBounds_toArray, List.set_cons_zero, List.set_cons_succ]
            refine hTake (i := 29) (v := ?v29_64) rfl (by kernel_rfl) (by kernel_rfl) (by kernel_rfl) (fun _ _ _ h => h) (Or.inl ⟨by rfl, ?hy29_64⟩) hS2 ?rest29_64
            case hy29_64 =>
              intro W hSw
              (try dsimp only at hSw)
              go_simp
              first | done | (with_reducible rfl)
            try simp only [Act.put, List.setIfInBounds_toArray, List.set_cons_zero, List.set_cons_succ]
            refine hTake (i := 30) (v := ?v30_65) rfl (by kernel_rfl) (by kernel_rfl) (by kernel_rfl) (fun _ _ _ h => h) (Or.inl ⟨by rfl, ?hy30_65⟩) hS2 ?rest30_65
            case hy30_65 =>
              intro W hSw
              (try dsimp only at hSw)
              go_simp
              first | done | (with_reducible rfl)
            try simp only [Act.put, List.setIfInBounds_toArray, List.set_cons_zero, List.set_cons_succ]
            refine hTake (i := 31) (v := ?v31_66) rfl (by kernel_rfl) (by kernel_rfl) (by kernel_rfl) (fun _ _ _ h => h) (Or.inl ⟨by rfl, ?hy31_66⟩) hS2 ?rest31_66
            case hy31_66 =>
              intro W hSw
              (try dsimp only at hSw)
              go_simp
              first | done | (with_reducible rfl)
            try simp only [Act.put, List.setIfInBounds_toArray, List.set_cons_zero, List.set_cons_succ]
            refine hTake (i := 32) (v := ?v32_67) rfl (by kernel_rfl) (by kernel_rfl) (by kernel_rfl) (fun _ _ _ h => h) (Or.inl ⟨by rfl, ?hy32_67⟩) hS2 ?rest32_67
            case hy32_67 =>
              intro W hSw
              (try dsimp only at hSw)
              go_simp
              first | done | (with_reducible rfl)
            try simp only [Act.put, List.setIfInBounds_toArray, List.set_cons_zero, List.set_cons_succ]
            refine hTake (i := 33) (v := ?v33_68) rfl (by kernel_rfl) (by kernel_rfl) (by kernel_rfl) (fun _ _ _ h => h) (Or.inl ⟨by rfl, ?hy33_68⟩) hS2 ?rest33_68
            case hy33_68 =>
              intro W hSw
              (try dsimp only at hSw)
              go_simp
              first | done | (with_reducible rfl)
            try simp only [Act.put, List.setIfInBounds_toArray, List.set_cons_zero, List.set_cons_succ]
            refine wpAnyH_ready (rs := [34]) (by kernel_rfl) (by simp) ?_
            refine hStep (i := 34) rfl (fun K hK => ?_) AllReadyH.nil
            go_simp; go_at_call 49; refine (K3.out _ BB2).mono ?_; rintro e v3 ⟨rfl, rfl⟩; try go_wp2_with fail
            refine hK.out _ _ ?_ (fun hS3 => ?_)
            · (try dsimp only); exact KP.out _ BB2
            clear hK K
            try simp only [Act.put, List.setIfInBounds_toArray, List.set_cons_zero, List.set_cons_succ]
            refine hTake (i := 35) (v := ?v35_69) rfl (by kernel_rfl) (by kernel_rfl) (by kernel_rfl) (fun _ _ _ h => h) (Or.inl ⟨by rfl, ?hy35_69⟩) hS3 ?rest35_69
            case hy35_69 =>
              intro W hSw
              (try dsimp only at hSw)
              go_simp
              first | done | (with_reducible rfl)
            try simp only [Act.put, List.setIfInBounds_toArray, List.set_cons_zero, List.set_cons_succ]
            refine hTake (i := 36) (v := ?v36_70) rfl (by kernel_rfl) (by kernel_rfl) (by kernel_rfl) (fun _ _ _ h => h) (Or.inl ⟨by rfl, ?hy36_70⟩) hS3 ?rest36_70
            case hy36_70 =>
              intro W hSw
              (try dsimp only at hSw)
              go_simp
              first | done | (with_reducible rfl)
            try simp only [Act.put, List.setIfInBounds_toArray, List.set_cons_zero, List.set_cons_succ]
            refine hTake (i := 37) (v := ?v37_71) rfl (by kernel_rfl) (by kernel_rfl) (by kernel_rfl) (fun _ _ _ h => h) (Or.inl ⟨by rfl, ?hy37_71⟩) hS3 ?rest37_71
            case hy37_71 =>
              intro W hSw
              (try dsimp only at hSw)
              go_simp
              first | done | (with_reducible rfl)
            try simp only [Act.put, List.setIfInBounds_toArray, List.set_cons_zero, List.set_cons_succ]
            refine wpAnyH_done (by kernel_rfl) ?_ _
            go_wp2
            go_roundw
            case rel => exact ⟨p + 1, by omega, by go_num, Lib.hid (Below.then HBi.out BB2)⟩
            case measure => simp [intOf]; have := HPE.out; omega
          -- light
        · as_aux_lemma =>
          obtain rfl : c = i := by omega
          have HRi := Lib.hid (HRa.out.below HBi.out)
          clear HSa HSUa HRa HBi
          obtain ⟨FR1, FR2, FR3⟩ := few_renamed HP.out HL.out
          have HFR1 := Lib.hid FR1
          have HFR2 := Lib.hid FR2
          have HFR3 := Lib.hid FR3
          clear FR1 FR2 FR3
          have y0 := HSi.out.box.1
          have y1 := HSi.out.box.2
          go_wp2_with fail
          refine (cRename HP.out HSi.out.tour HSi.out.ord (perm_nI.2 HL.out)).mono ?_
          rintro e wb ⟨RA, rc, rfl, hor, hbr⟩
          have bb := below_alloc1 wb (.cells #[.int .i64 n, .slice RA n rc] 28)
          obtain ⟨bz, hbz⟩ : ∃ b, b = wb.heap.size := ⟨_, rfl⟩
          have HZ := Lib.hid (show TBox (wb.alloc (.cells #[.int .i64 n, .slice RA n rc] 28)) bz n (.slice RA n rc) by rw [hbz]; exact TBox.new wb n (.slice RA n rc) 28)
          have HZR := Lib.hid (hor.rd.below bb)
          have HSb := Lib.hid (HSi.out.next (Below.then hbr bb))
          have HIb := Lib.hid ((HSUi.out.imp.below hbr).below bb)
          have HRb := Lib.hid ((HRi.out.below hbr).below bb)
          clear hor hbr bb HSi HSUi HRi y0 y1
          have y0 := HSb.out.box.1
          have y1 := HSb.out.box.2
          go_wp2_with fail
          rw [← hbz]
          generalize wb.alloc (.cells #[.int .i64 n, .slice RA n rc] 28) = wc at *
          clear hbz
          refine (cFeedback HP.out HSb.out.tour).mono ?_
          rintro e wd ⟨vh, rfl, hoh, hbh⟩
          obtain ⟨FH, fh, rfl, -⟩ := hoh.form
          rw [bgN_len HBO1.out, HBO2.out, ← HFE.out]
          have HSd := Lib.hid (HSb.out.next hbh)
          have HId := Lib.hid (HIb.out.below hbh)
          have HRd := Lib.hid (HRb.out.below hbh)
          have HZd := Lib.hid (HZ.out.below hbh)
          have HZRd := Lib.hid (HZR.out.below hbh)
          clear hoh hbh HSb HIb HRb HZ HZR y0 y1
          have y0 := HSd.out.box.1
          have y1 := HSd.out.box.2
          go_wp2_with fail
          refine (cMany HP.out HSd.out.tour).mono ?_
          rintro e we ⟨rfl, hbe⟩
          obtain ⟨M, hM⟩ : ∃ M, M = manyN (bt xs) n := ⟨_, rfl⟩
          have HME := Lib.hid hM
          have hM1 : 1 ≤ M := by rw [hM]; exact many_pos (bt_irr HP.out)
          rw [← hM]
          have HSe := Lib.hid (HSd.out.next hbe)
          have HIe := Lib.hid (HId.out.below hbe)
          have HRe := Lib.hid (HRd.out.below hbe)
          have HZe := Lib.hid (HZd.out.below hbe)
          have HZRe := Lib.hid (HZRd.out.below hbe)
          clear hbe hM HSd HId HRd HZd HZRd y0 y1
          have y0 := HSe.out.box.1
          have y1 := HSe.out.box.2
          go_wp2_with fail
          refine (cRevs HP.out HSe.out.tour (rev_ord HL.out) (by rw [HRE.out]; exact HRe.out)).mono ?_
          rintro e wf ⟨rfl, hbf⟩
          have hrb := rev_back HP.out HL.out
          rw [← HCE.out] at hrb
          generalize revN (bt xs) l.reverse = rb at *
          have HSf := Lib.hid (HSe.out.next hbf)
          have HIf := Lib.hid (HIe.out.below hbf)
          have HZf := Lib.hid (HZe.out.below hbf)
          have HZRf := Lib.hid (HZRe.out.below hbf)
          clear hbf HSe HIe HRe HZe HZRe y0 y1
          have z0 := HZf.out.1
          have z1 := HZf.out.2
          have hbs := back_sum hn7 hrb
          go_wp2_with fail
          refine (cFew HFR1.out HZRf.out).mono ?_
          rintro e wg ⟨rfl, hbg⟩
          rw [HFR2.out, ← HFE.out]
          have HSg := Lib.hid (HSf.out.next hbg)
          have HIg := Lib.hid (HIf.out.below hbg)
          have HZg := Lib.hid (HZf.out.below hbg)
          have HZRg := Lib.hid (HZRf.out.below hbg)
          clear hbg HSf HIf HZf HZRf z0 z1
          have z0 := HZg.out.1
          have z1 := HZg.out.2
          have d4 : decide ((1 : Int) ≤ (M : Int)) = true := decide_eq_true (by omega)
          have dn4 : decide (1 ≤ M) = true := decide_eq_true hM1
          go_wp2_with fail
          refine (cMany HFR1.out HZRg.out).mono ?_
          rintro e wh ⟨rfl, hbh⟩
          rw [HFR3.out, ← HME.out]
          have HSh := Lib.hid (HSg.out.next hbh)
          have HIh := Lib.hid (HIg.out.below hbh)
          clear hbh HSg HIg HZg HZRg z0 z1
          have y0 := HSh.out.box.1
          have y1 := HSh.out.box.2
          go_wp2_with fail
          refine (cPack HP.out HSh.out.tour).mono ?_
          rintro e wk ⟨CP, cp, out, rfl, ho1, ho2, hbk⟩
          have hlo : out.length ≤ f := by
            have := pack_few HP.out HBO1.out ho1 ho2
            rwa [HBO2.out, ← HFE.out] at this
          generalize out.length = po at *
          have d5 : decide ((po : Int) ≤ (f : Int)) = true := decide_eq_true (by omega)
          have dn5 : decide (po ≤ f) = true := decide_eq_true hlo
          have HSk := Lib.hid (HSh.out.next hbk)
          have HIk := Lib.hid (HIh.out.below hbk)
          clear hbk HSh HIh ho1 ho2 y0 y1
          have y0 := HSk.out.box.1
          have y1 := HSk.out.box.2
          go_wp2_with fail
          refine (cIsWay HSk.out.tour HSk.out.best (best_way HP.out)).mono ?_
          rintro e wl ⟨rfl, hbl⟩
          have HSl := Lib.hid (HSk.out.next hbl)
          have HIl := Lib.hid (HIk.out.below hbl)
          clear hbl HSk HIk y0 y1
          have y0 := HSl.out.box.1
          have y1 := HSl.out.box.2
          go_wp2_with fail
          refine (cSettled HP.out HSl.out.tour HL.out HSl.out.ord).mono ?_
          rintro e wm ⟨rfl, hbm⟩
          have HSm := Lib.hid (HSl.out.next hbm)
          have HIm := Lib.hid (HIl.out.below hbm)
          clear hbm HSl HIl y0 y1
          have HSE : Hid (setB (bt xs) n l = decide (nI x = nI l)) := Lib.hid (by
            rcases HXL.out with rfl | ⟨h1, h2⟩
            · rw [setB_true HXS.out]; simp
            · rw [setB_false h1]
              symm
              rw [decide_eq_false_iff_not]
              intro e
              have : x = l := by
                have := congrArg (List.map Int.toNat) e
                rwa [nI_back, nI_back] at this
              subst this
              omega)
          go_wp2_with fail
          refine (lsame_any _ _ (nI x) (nI l) _ HIm.out HSm.out.ord).mono ?_
          rintro e wn ⟨rfl, rfl⟩
          rw [← HSE.out]
          generalize setB (bt xs) n l = sb at *
          go_wp2
          go_ret
          exact ⟨by simp, HSm.out.below⟩
end Go.Proofs.Ytajeledbmnndmaa

