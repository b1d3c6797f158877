/- Texts put together: LFnSafe. -/
import Derived.Test.YtajeledbmnndmaaMSafe16
import Derived.Test.YtajeledbmnndmaaMSafe08
import Derived.Test.YtajeledbmnndmaaMSafe11
import Derived.Test.YtajeledbmnndmaaMSafe14
import Derived.Test.YtajeledbmnndmaaMSafe12
import Derived.Deep.RegionHeld3
import Derived.Deep.DeepCutAuto
namespace Go.Proofs.Ytajeledbmnndmaa
open Go.RowKit Go.Sort
set_option maxRecDepth 100000
/-- what stays while the law runs -/
structure SSt (w W : World) (bx n : Nat) (Y : Option Addr) (cy : Nat) (xs : List Int) (v0 : Value) (vg vo cv : Nat) (V : List Int) : Prop where
  below : Below w.heap.size w W
  box : TBox W bx n (.slice Y n cy)
  tour : Rd W (.slice Y n cy) xs
  code : BytesV W w.heap.size v0
  wts : Rd W (.slice (some ⟨vg, vo, none⟩) n cv) V
theorem SSt.next {w W W' : World} {bx n : Nat} {Y : Option Addr} {cy : Nat} {xs : List Int} {v0 : Value} {vg vo cv : Nat} {V : List Int} (h : SSt w W bx n Y cy xs v0 vg vo cv V) (hb : Below W.heap.size W W') : SSt w W' bx n Y cy xs v0 vg vo cv V :=
  ⟨Below.then h.below hb, h.box.below hb, h.tour.below hb, h.code.keep (fun p hp => hb.cell (by have := h.below.size; omega)), h.wts.below hb⟩
theorem bit_eq {x : Int} {T a : Nat} (hbit : T.testBit a = decide (0 < x)) : bits .and .i64 ((T : Int) / 2 ^ a) 1 = if 0 < x then 1 else 0 := by
  have := bit_num T a
  rw [this, hbit]
  by_cases h : 0 < x
  · rw [decide_eq_true h, if_pos h]; rfl
  · rw [decide_eq_false h, if_neg h]; rfl
set_option maxHeartbeats 8000000 in
theorem lawFnSafe (v0 : Value) (w : World) (h0 : BytesV w w.heap.size v0) :
    Calls Try.prog 5 #[v0] w fun e w' => e = .returned (.bool true) ∧ Below w.heap.size w w' := by
  have HV := Lib.hid h0
  obtain ⟨A0, k0, c0, rfl, hk0, hc0, -⟩ := h0
  unfold maxLen at hc0
  by_cases hn0 : k0 ≤ 1048576
  case neg =>
    have hd0 : decide ((1048576 : Int) < (k0 : Int)) = true := by simp; omega
    go_enter Try.func5, Try.ntmps5
    go_wp2
    go_ret
    exact ⟨rfl, Below.refl _ _⟩
  have hd0 : decide ((1048576 : Int) < (k0 : Int)) = false := by simp; omega
  go_enter Try.func5, Try.ntmps5
  go_wp2_with fail
  refine (makeTour_any w (.slice A0 k0 c0) 0 7 0 7 rfl rfl (by omega) (by omega) (by omega) HV.out).mono ?_
  rintro e w1 ⟨n, sl, xs, rfl, hn7, hp, ho, hb⟩
  obtain ⟨Y, cy, rfl, -, hcy, -⟩ := ho.form
  have HP := Lib.hid hp
  have hn1 : 1 ≤ n := by have := hp.1; omega
  rw [tour_len hp] at *
  have bb := below_alloc1 w1 (.cells #[.int .i64 n, .slice Y n cy] 28)
  obtain ⟨bx, hbx⟩ : ∃ bx, bx = w1.heap.size := ⟨_, rfl⟩
  have HB2 := Lib.hid (Below.then hb bb)
  have HX2 := Lib.hid (show TBox (w1.alloc (.cells #[.int .i64 n, .slice Y n cy] 28)) bx n (.slice Y n cy) by rw [hbx]; exact TBox.new w1 n (.slice Y n cy) 28)
  have HT2 := Lib.hid (ho.rd.below bb)
  have HC2 := Lib.hid (HV.out.keep (fun p hp => (Below.then hb bb).cell hp))
  obtain ⟨V, T, hV⟩ := safe_law HP.out hn7
  have HL := Lib.hid hV
  clear ho hb hp bb hV
  go_wp2_with fail
  rw [← hbx]
  generalize w1.alloc (.cells #[.int .i64 n, .slice Y n cy] 28) = w2 at *
  clear hbx
  have y0 := HX2.out.1
  have y1 := HX2.out.2
  go_wp2_with fail
  refine (cSafe HL.out HT2.out).mono ?_
  rintro e w3 ⟨WA, cv, rfl, ho3, hb3⟩
  obtain ⟨vg, vo, rfl⟩ := rd_at ho3.rd HL.out.len hn1
  have HS3 : Hid (SSt w w3 bx n Y cy xs (.slice A0 k0 c0) vg vo cv V) := Lib.hid ⟨Below.then HB2.out hb3, HX2.out.below hb3, HT2.out.below hb3, HC2.out.keep (fun p hp => hb3.cell (by have := HB2.out.size; omega)), ho3.rd⟩
  clear ho3 hb3 HX2 HT2 HC2 HB2 y0 y1
  have y0 := HS3.out.box.1
  have y1 := HS3.out.box.2
  go_wp2_with fail
  refine (cSafeSet HL.out HS3.out.tour).mono ?_
  rintro e w4 ⟨rfl, hb4⟩
  have HS4 := Lib.hid (HS3.out.next hb4)
  clear hb4 HS3 y0 y1
  have hT128 := HL.out.lt
  have y0 := HS4.out.box.1
  have y1 := HS4.out.box.2
  go_wp2_with fail
  refine (cStratOk HL.out.strat HS4.out.tour HS4.out.wts).mono ?_
  rintro e w5 ⟨rfl, hb5⟩
  have HS5 := Lib.hid (HS4.out.next hb5)
  clear hb5 HS4 y0 y1
  have y0 := HS5.out.box.1
  have y1 := HS5.out.box.2
  go_wp2_with fail
  refine (cIsSafe HL.out.safe HS5.out.tour HS5.out.wts).mono ?_
  rintro e w6 ⟨rfl, hb6⟩
  have HS6 := Lib.hid (HS5.out.next hb6)
  clear hb6 HS5 y0 y1
  have y0 := HS6.out.box.1
  have y1 := HS6.out.box.2
  go_wp2_with fail
  refine (cKings n _ xs w6 HS6.out.tour HP.out).mono ?_
  rintro e w7 ⟨rfl, hb7⟩
  have HS7 := Lib.hid (HS6.out.next hb7)
  clear hb7 HS6 y0 y1
  have hkg : kgS xs n < 256 := Nat.lt_of_lt_of_le kg_lt (Nat.pow_le_pow_right (n := 2) (j := 8) (by decide) (by omega))
  have hand := i64_andNot_nat T (kgS xs n) (by omega) (by omega)
  rw [HL.out.kings] at hand
  have HODD := Lib.hid HL.out.odd
  have L1 := Lib.hid (fun W => lawBits_any T W (by omega))
  generalize kgS xs n = k at *
  generalize popN 8 T = pt at *
  have o1 : Int.tmod (pt : Int) 2 = 1 := by have := HODD.out; rw [Int.tmod_eq_emod_of_nonneg (by omega)]; omega
  have o2 : (pt : Int) % 2 = 1 := by have := HODD.out; omega
  go_wp2_with fail
  refine (L1.out w7).mono ?_
  rintro e vx ⟨rfl, rfl⟩
  clear hand hkg
  go_wp2
  clear o1 o2 L1 HODD
  go_loopw [8, 9] (fun t8 t9 wr => ∃ (a : Nat), a ≤ n ∧ t9 = .int .i64 a ∧ t8 = .int .i64 0 ∧ Hid (SSt w wr bx n Y cy xs (.slice A0 k0 c0) vg vo cv V)) (fun _ t9 _ => n - (intOf t9).toNat)
  case atStart => exact ⟨0, by omega, rfl, rfl, HS7⟩
  case round =>
    obtain ⟨wo, rfl⟩ : ∃ x, x = wr := ⟨_, rfl⟩
    obtain ⟨a, ha, rfl, rfl, HS⟩ := hrel
    clear HS7
    by_cases hlt : a < n
    · as_aux_lemma =>
        -- heavy
        have y0 := HS.out.box.1
        have y1 := HS.out.box.2
        go_wp2_with fail
        refine (cBalance HL.out.strat HS.out.tour HS.out.wts a hlt).mono ?_
        rintro e w8 ⟨rfl, hb8⟩
        have HS8 := Lib.hid (HS.out.next hb8)
        clear hb8 HS y0 y1
        have hbit := bit_eq (HL.out.bit a hlt)
        have hea := HL.out.each a hlt
        have zv := rd_cell HS8.out.wts HL.out.len hlt
        generalize V.getD a 0 = x at *
        generalize balI xs V a = b at *
        obtain ⟨x0, x15, hea⟩ := hea
        rcases hea with ⟨xp, xo, rfl⟩ | ⟨rfl, bp, bu⟩
        · rw [if_pos xp] at hbit
          have o1 : Int.tmod x 2 = 1 := by rw [Int.tmod_eq_emod_of_nonneg (by omega)]; omega
          have d1 : decide (0 < x) = true := decide_eq_true xp
          have d2 : (x == 0) = false := by simp; omega
          go_wp2_with fail
          have zq := cell_regrown zv
          clear zv
          refine wp_region_below (by kernel_rfl) (lexB_cheap (by kernel_rfl) (by kernel_rfl)) ?_
          repeat (go_big_quiet_step (first | (with_reducible fail)))
          refine wpQuiet_nil ?_
          intro wq hbq0
          have HS9 := Lib.hid (HS8.out.next hbq0)
          clear hbq0 zq HS8
          go_wp2
          go_roundw
          case rel => exact ⟨a + 1, by omega, by go_num, rfl, HS9⟩
          case measure => simp [intOf]; omega
        · rw [if_neg (by decide)] at hbit
          have d0 : decide (b < 0) = false := by simp; omega
          have d2 : (b == 0) = false := by simp; omega
          go_wp2_with fail
          have zq := cell_regrown zv
          clear zv
          refine wp_region_below (by kernel_rfl) (lexB_cheap (by kernel_rfl) (by kernel_rfl)) ?_
          repeat (go_big_quiet_step (first | (with_reducible fail)))
          refine wpQuiet_nil ?_
          intro wq hbq0
          have HS9 := Lib.hid (HS8.out.next hbq0)
          clear hbq0 zq HS8
          go_wp2
          go_roundw
          case rel => exact ⟨a + 1, by omega, by go_num, rfl, HS9⟩
          case measure => simp [intOf]; omega
        -- light
    · as_aux_lemma =>
      obtain rfl : a = n := by omega
      go_wp2_with fail
      refine (makeOrder_any wo (.slice A0 k0 c0) 20 20 a rfl (by omega) hn1 (by omega) (HS.out.code.mono HS.out.below.size)).mono ?_
      rintro e w8 ⟨ov, q, rfl, hq, ho8, hb8⟩
      obtain ⟨OA, co, rfl, -, -, -⟩ := ho8.form
      have HQ := Lib.hid hq
      have hql := hq.1
      rw [hql] at ho8 ⊢
      obtain ⟨og, oo, rfl⟩ := rd_at ho8.rd hql hn1
      have HS8 := Lib.hid (HS.out.next hb8)
      have HO8 := Lib.hid ho8.rd
      clear ho8 hb8 HS hql hq
      obtain ⟨hpr, V', T', hV', hvv⟩ := safe_rn HP.out hn7 HQ.out HL.out
      have HL' := Lib.hid hV'
      have HVV := Lib.hid hvv
      clear hV' hvv hpr
      have y0 := HS8.out.box.1
      have y1 := HS8.out.box.2
      go_wp2_with fail
      refine (cRename HP.out HS8.out.tour HO8.out HQ.out).mono ?_
      rintro e w9 ⟨RA, cr, rfl, ho9, hb9⟩
      have HS9 := Lib.hid (HS8.out.next hb9)
      have HO9 := Lib.hid (HO8.out.below hb9)
      have HR9 := Lib.hid ho9.rd
      clear ho9 hb9 HS8 HO8 y0 y1
      have bb := below_alloc1 w9 (.cells #[.int .i64 a, .slice RA a cr] 28)
      obtain ⟨by2, hby⟩ : ∃ b, b = w9.heap.size := ⟨_, rfl⟩
      have HX := Lib.hid (show TBox (w9.alloc (.cells #[.int .i64 a, .slice RA a cr] 28)) by2 a (.slice RA a cr) by rw [hby]; exact TBox.new w9 a (.slice RA a cr) 28)
      have HS10 := Lib.hid (HS9.out.next bb)
      have HO10 := Lib.hid (HO9.out.below bb)
      have HR10 := Lib.hid (HR9.out.below bb)
      clear bb HS9 HO9 HR9
      go_wp2_with fail
      rw [← hby]
      generalize w9.alloc (.cells #[.int .i64 a, .slice RA a cr] 28) = w10 at *
      clear hby
      have y0 := HX.out.1
      have y1 := HX.out.2
      go_wp2_with fail
      refine (cSafe HL'.out HR10.out).mono ?_
      rintro e w11 ⟨XA, cx, rfl, ho11, hb11⟩
      obtain ⟨xg, xo, rfl⟩ := rd_at ho11.rd HL'.out.len hn1
      have HS11 := Lib.hid (HS10.out.next hb11)
      have HO11 := Lib.hid (HO10.out.below hb11)
      have HX11 := Lib.hid ho11.rd
      clear ho11 hb11 HS10 HO10 HR10 HX y0 y1
      go_wp2
      go_loopw [16] (fun t16 wr => ∃ (c : Nat), c ≤ a ∧ t16 = .int .i64 c ∧ Hid (SSt w wr bx a Y cy xs (.slice A0 k0 c0) vg vo cv V) ∧ Hid (Rd wr (.slice (some ⟨og, oo, none⟩) a co) q) ∧ Hid (Rd wr (.slice (some ⟨xg, xo, none⟩) a cx) V')) (fun t16 _ => a - (intOf t16).toNat)
      case atStart => exact ⟨0, by omega, rfl, HS11, HO11, HX11⟩
      case round =>
        obtain ⟨wi, rfl⟩ : ∃ x, x = wr := ⟨_, rfl⟩
        obtain ⟨c, hc, rfl, HS, HO, HX⟩ := hrel
        clear HS11 HO11 HX11
        by_cases hltc : c < a
        · as_aux_lemma =>
          -- heavy
          have zv := rd_cell HS.out.wts HL.out.len hltc
          have zo := rd_cell HO.out HQ.out.1 hltc
          obtain ⟨en, hnm⟩ := nm_val HQ.out hltc
          rw [en] at zo
          have zx := rd_cell HX.out HL'.out.len hnm
          rw [HVV.out c hltc] at zx
          generalize V.getD c 0 = x at *
          generalize nmN q c = m at *
          clear en
          have z1 := cell_regrown zv
          have z2 := cell_regrown zo
          have z3 := cell_regrown zx
          clear zv zo zx
          go_wp2_with fail
          refine wp_region_below (by kernel_rfl) (by kernel_rfl) ?_
          repeat (go_big_quiet_step (first | (with_reducible fail)))
          refine wpQuiet_nil ?_
          intro wq hbq0
          have HS9 := Lib.hid (HS.out.next hbq0)
          have HO9 := Lib.hid (HO.out.below hbq0)
          have HX9 := Lib.hid (HX.out.below hbq0)
          clear hbq0 z1 z2 z3 HS HO HX
          go_wp2
          go_roundw
          case rel => exact ⟨c + 1, by omega, by go_num, HS9, HO9, HX9⟩
          case measure => simp [intOf]; omega
          -- light
        · as_aux_lemma =>
          obtain rfl : c = a := by omega
          clear HX HO HVV HQ HL'
          have HO0 := Lib.hid (Own.lit wi wi.heap.size [] (Nat.le_refl _) (by decide))
          have bb := below_alloc1 wi (.cells #[] 3)
          have HB0 := Lib.hid bb
          clear bb
          go_wp2
          go_loopw [17, 18] (fun t17 t18 wr => ∃ (d : Nat) (vv : Value) (L : List Int), d ≤ c ∧ t18 = .int .i64 d ∧ vv = t17 ∧ L.length = d ∧ Hid (∀ x ∈ L, 0 ≤ x ∧ x ≤ 3) ∧ Hid (Own wr wi.heap.size vv L) ∧ Hid (Below wi.heap.size wi wr)) (fun _ t18 _ => c - (intOf t18).toNat)
          case atStart => exact ⟨0, _, [], by omega, rfl, rfl, rfl, Lib.hid (fun x hx => by cases hx), HO0, HB0⟩
          case round =>
            obtain ⟨wj, rfl⟩ : ∃ x, x = wr := ⟨_, rfl⟩
            obtain ⟨d, vv, L, hd, rfl, rfl, hL, HLB, HO, HB⟩ := hrel
            clear HO0 HB0
            by_cases hltd : d < c
            · as_aux_lemma =>
              -- heavy
              go_wp2_with fail
              refine (makeNum_any wj (.slice A0 k0 c0) _ (40 + 2 * d) (by first | omega | (simp; omega)) (by omega) ((HS.out.next HB.out).code.mono (HS.out.next HB.out).below.size)).mono ?_
              rintro e w8 ⟨K, rfl, hK, hb8⟩
              have HB8 := Lib.hid (HB.out.trans (hb8.mono HB.out.size))
              have HO8 := Lib.hid (HO.out.below hb8)
              clear hb8 HB HO
              obtain ⟨r, hr⟩ : ∃ r, r = K % 4 := ⟨_, rfl⟩
              have hr4 : r ≤ 3 := by omega
              have ek : Int.tmod (K : Int) 4 = (r : Int) := by rw [Int.tmod_eq_emod_of_nonneg (by omega)]; omega
              have ek2 : (K : Int) % 4 = (r : Int) := by omega
              clear hr hK
              have hlen : L.length ≤ 1099511627776 := by omega
              have hsz := HB8.out.size
              have hfo := HO8.out
              go_wp2_with (at_builtin; refine wp_append1 w8 rfl (.tmp 182) (.tmp 189) rfl wi.heap.size _ L (r : Int) rfl hfo (by simp [Act.eval]) hlen hsz ?_; intro v' w9 hown1 hg1; have HO9 := Lib.hid hown1; have HB9 := Lib.hid (below_append HB8.out hg1 hfo (Nat.le_refl _) hsz); clear hown1 hg1)
              go_roundw
              case rel => exact ⟨d + 1, _, L ++ [(r : Int)], by omega, by go_num, rfl, by simp [hL], Lib.hid (fun x hx => by
                rcases List.mem_append.1 hx with h | h
                · exact HLB.out x h
                · simp at h; subst h; omega), HO9, HB9⟩
              case measure => simp [intOf]; omega
              -- light
            · as_aux_lemma =>
              obtain rfl : d = c := by omega
              obtain ⟨D1, D2, D3⟩ := drawn_strat HP.out hL HLB.out
              obtain ⟨g, cg, rfl, hg, hcg, hdc, hcell, hfrz⟩ := HO.out.at_ hL hn1
              obtain ⟨U, hU⟩ : ∃ U, U = if L.sum = 0 then L.set 0 1 else L := ⟨_, rfl⟩
              rw [← hU] at D1 D2 D3
              have HD1 := Lib.hid D1
              have HD3 := Lib.hid D3
              have HUU := Lib.hid hU
              have HUL := Lib.hid D2
              clear D1 D3 D2 hU
              have HSU := Lib.hid (show ∀ W, Rd W (.slice (some ⟨g, 0, none⟩) d cg) L → Calls Try.prog 29 #[.slice (some ⟨g, 0, none⟩) d cg] W fun e w' => e = .returned (.int .i64 L.sum) ∧ W = w' from fun W h => sum_any W _ L 3 h (by omega) (by decide) (fun x hx => by have := HLB.out x hx; omega))
              go_wp2_with fail
              refine (HSU.out wj HO.out.rd).mono ?_
              rintro e vx ⟨rfl, rfl⟩
              clear HSU
              have z0 := hcell 0 hn1
              have f0 := hfrz 0
              clear hcell hfrz
              have hs0 : (L.sum = 0 ∧ (L.sum == 0) = true) ∨ (L.sum ≠ 0 ∧ (L.sum == 0) = false) := by
                by_cases h : L.sum = 0
                · exact .inl ⟨h, by simp [h]⟩
                · exact .inr ⟨h, by simp [h]⟩
              have HUS := Lib.hid (Own.set_ HO.out hL 0 1)
              have HU0 := Lib.hid (show (L.sum = 0 → U = L.set 0 1) ∧ (L.sum ≠ 0 → U = L) from ⟨fun h => by rw [HUU.out, if_pos h], fun h => by rw [HUU.out, if_neg h]⟩)
              generalize L.sum = sm at *
              generalize L.getD 0 0 = l0 at *
              go_upto_if 193 with fail
              go_cut [17] (fun t17 wx => t17 = .slice (some ⟨g, 0, none⟩) d cg ∧ Hid (Own wx wi.heap.size (.slice (some ⟨g, 0, none⟩) d cg) U) ∧ Hid (Below wi.heap.size wi wx))
              case first =>
                as_aux_lemma =>
                  -- heavy
                  rcases hs0 with ⟨h1, h2⟩ | ⟨h1, h2⟩
                  · go_wp2
                    go_meet
                    exact ⟨rfl, Lib.hid (by rw [HU0.out.1 h1]; exact HUS.out.1), Lib.hid (HB.out.grown HUS.out.2 HB.out.size (fun k hk => by injection hk with hk; omega))⟩
                  · go_wp2
                    go_meet
                    exact ⟨rfl, Lib.hid (by rw [HU0.out.2 h1]; exact HO.out), HB⟩
                  -- light
              case rest =>
              as_aux_lemma =>
                obtain ⟨rfl, HOu, HBu⟩ := hcut
                have HSu := Lib.hid (HS.out.next HBu.out)
                have HRu := Lib.hid HOu.out.rd
                clear HB HO HOu HBu HUS HU0 hs0 z0 f0 HUU HS HLB hL hg
                obtain ⟨B, hB1, hB2, hB3, hB4⟩ := best_law HD3.out
                have HBI := Lib.hid hB1
                have HBS := Lib.hid hB4
                clear hB1 hB4
                have y0 := HSu.out.box.1
                have y1 := HSu.out.box.2
                go_wp2_with fail
                refine (cBest HBI.out HSu.out.tour HRu.out).mono ?_
                rintro e w8 ⟨rfl, hb8⟩
                have HS8 := Lib.hid (HSu.out.next hb8)
                have HR8 := Lib.hid (HRu.out.below hb8)
                clear hb8 HSu HRu y0 y1
                go_wp2_with fail
                refine (cMix HL.out HS8.out.wts).mono ?_
                rintro e w9 ⟨MA, cm, rfl, ho9, hb9⟩
                have HS9 := Lib.hid (HS8.out.next hb9)
                have HR9 := Lib.hid (HR8.out.below hb9)
                have HM9 := Lib.hid ho9.rd
                clear ho9 hb9 HS8 HR8
                go_wp2
                go_loopw [22, 23] (fun t22 t23 wr => ∃ (i : Nat) (G : Int), i ≤ d ∧ t23 = .int .i64 i ∧ t22 = .int .i64 G ∧ 0 ≤ G ∧ G ≤ 2400000 * i ∧ Hid (SSt w wr bx d Y cy xs (.slice A0 k0 c0) vg vo cv V) ∧ Hid (Rd wr (.slice (some ⟨g, 0, none⟩) d cg) U) ∧ Hid (Rd wr (.slice MA d cm) V)) (fun _ t23 _ => d - (intOf t23).toNat)
                case atStart => exact ⟨0, 0, by omega, rfl, rfl, by omega, by omega, HS9, HR9, HM9⟩
                case round =>
                  obtain ⟨wk, rfl⟩ : ∃ x, x = wr := ⟨_, rfl⟩
                  obtain ⟨i, G, hi, rfl, rfl, hG0, hG1, HS, HR, HM⟩ := hrel
                  clear HS9 HR9 HM9
                  by_cases hlti : i < d
                  · as_aux_lemma =>
                    -- heavy
                    have y0 := HS.out.box.1
                    have y1 := HS.out.box.2
                    have k1 := quiet_below (w := wk) (fun W' hW => cBalance HL.out.strat (HS.out.next hW).tour (HS.out.next hW).wts i hlti)
                    have zu := rd_cell HR.out HUL.out hlti
                    rw [Nat.zero_add] at zu
                    have hea := HL.out.each i hlti
                    have hu := HD1.out i hlti
                    have hbu : 0 ≤ balI xs V i ∧ balI xs V i ≤ 800000 := by
                      rcases hea.2.2 with h | h
                      · omega
                      · omega
                    clear hea
                    generalize balI xs V i = b at *
                    generalize U.getD i 0 = u at *
                    obtain ⟨p, hp⟩ : ∃ p, p = u * b := ⟨_, rfl⟩
                    have hp0 : 0 ≤ p := by rw [hp]; exact Int.mul_nonneg hu.1 hbu.1
                    have hp1 : p ≤ 2400000 := by rw [hp]; exact Int.le_trans (Int.mul_le_mul hu.2 hbu.2 hbu.1 (by decide)) (by decide)
                    have HPP := Lib.hid hp
                    have u1 : IntKind.i64.wrap (u * b) = p := by rw [← hp]; exact IntWalk.i64_in _ (by omega)
                    have u2 : wrap64 (u * b) = p := by rw [← hp]; unfold wrap64; omega
                    have u3 : IntKind.i64.wrap (G + p) = G + p := IntWalk.i64_in _ (by omega)
                    have u4 : wrap64 (G + p) = G + p := by unfold wrap64; omega
                    clear hp
                    have z0 := cell_regrown y0
                    have z1 := cell_regrown y1
                    have z2 := cell_regrown zu
                    clear y0 y1 zu
                    go_wp2_with fail
                    refine wp_region_below (by kernel_rfl) (by kernel_rfl) ?_
                    repeat (go_big_quiet_step (first | (with_reducible exact k1 _ _)))
                    refine wpQuiet_nil ?_
                    intro wq hbq0
                    have HSq := Lib.hid (HS.out.next hbq0)
                    have HRq := Lib.hid (HR.out.below hbq0)
                    have HMq := Lib.hid (HM.out.below hbq0)
                    clear hbq0 k1 z0 z1 z2 HS HR HM
                    go_wp2
                    go_roundw
                    case rel => exact ⟨i + 1, G + p, by omega, by go_num, by first | rfl | go_num | rw [u2, u4], by omega, by omega, HSq, HRq, HMq⟩
                    case measure => simp [intOf]; omega
                    -- light
                  · as_aux_lemma =>
                    -- heavy
                    obtain rfl : i = d := by omega
                    have y0 := HS.out.box.1
                    have y1 := HS.out.box.2
                    have k1 := quiet_below (w := wk) (fun W' hW => cBalance HD3.out (HS.out.next hW).tour (HR.out.below hW) B hB2)
                    have k2 := quiet_below (w := wk) (fun W' hW => cIsSafe HBS.out (HS.out.next hW).tour (HR.out.below hW))
                    have k3 := quiet_below (w := wk) (fun W' hW => of_same (same_yes _ _ V W' (HM.out.below hW) (HS.out.next hW).wts))
                    generalize balI xs U B = b at *
                    have g1 : decide ((B : Int) < (i : Int)) = true := by simp; omega
                    have g0 : decide ((0 : Int) ≤ (B : Int)) = true := by simp
                    have g2 : decide (b ≤ 0) = true := decide_eq_true hB3
                    have g3 : decide ((0 : Int) ≤ G) = true := decide_eq_true hG0
                    have z0 := cell_regrown y0
                    have z1 := cell_regrown y1
                    clear y0 y1
                    rcases q : decide (b < 0) with _ | _
                    · rw [q] at k2
                      go_wp2_with fail
                      refine wp_region_below (by kernel_rfl) (by kernel_rfl) ?_
                      repeat (go_big_quiet_step (first | (with_reducible exact k1 _ _) | (with_reducible exact k2 _ _) | (with_reducible exact k3 _ _)))
                      refine wpQuiet_nil ?_
                      intro wq hbq0
                      have HSq := Lib.hid (HS.out.next hbq0)
                      clear hbq0 k1 k2 k3 z0 z1 HS HR HM
                      go_wp2
                      go_ret
                      exact ⟨rfl, HSq.out.below⟩
                    · rw [q] at k2
                      go_wp2_with fail
                      refine wp_region_below (by kernel_rfl) (by kernel_rfl) ?_
                      repeat (go_big_quiet_step (first | (with_reducible exact k1 _ _) | (with_reducible exact k2 _ _) | (with_reducible exact k3 _ _)))
                      refine wpQuiet_nil ?_
                      intro wq hbq0
                      have HSq := Lib.hid (HS.out.next hbq0)
                      clear hbq0 k1 k2 k3 z0 z1 HS HR HM
                      go_wp2
                      go_ret
                      exact ⟨rfl, HSq.out.below⟩
                    -- light
end Go.Proofs.Ytajeledbmnndmaa

