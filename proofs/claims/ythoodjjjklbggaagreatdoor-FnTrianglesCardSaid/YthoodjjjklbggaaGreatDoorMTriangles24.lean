/- Texts put together: TgX. -/
import Derived.Test.YthoodjjjklbggaaGreatDoorMTriangles23
import Derived.Test.YthoodjjjklbggaaGreatDoorMTriangles10
import Derived.Test.YthoodjjjklbggaaGreatDoorMTriangles12
import Derived.Test.YthoodjjjklbggaaGreatDoorMTriangles09
namespace Go.Proofs.YthoodjjjklbggaaGreatDoor
open Go.RowKit Go.Sort
set_option maxRecDepth 100000
variable {n : Nat} {xs ys : List Int} {sl sl2 : Value} {w : World}
theorem TBox.grown {w w' : World} {row : Option Nat} {b : Nat} {s : Int} {v : Value} (h : TBox w b s v) (hg : w.grownBy w' row) (hb : b < w.heap.size) (hne : some b ≠ row) : TBox w' b s v :=
  ⟨(World.cell?_of_block (w := w) (hg.block b hb hne)).trans h.1, (World.cell?_of_block (w := w) (hg.block b hb hne)).trans h.2⟩
theorem TBox.lt {w : World} {b : Nat} {s : Int} {v : Value} (h : TBox w b s v) : b < w.heap.size := World.block_lt_of_cell? _ _ h.1
/-- what stays while the distances are sought -/
structure TwS (w W : World) (n : Nat) (u : List Int) (bt mb : Nat) (s : Value) (K : List (List Int)) : Prop where
  bw : Below w.heap.size w W
  tb : BoxF W bt n s
  mp : MpT W mb n u K
theorem TwS.next {w W W' : World} {n : Nat} {u : List Int} {bt mb : Nat} {s : Value} {K : List (List Int)} (h : TwS w W n u bt mb s K) (hb : Below W.heap.size W W') : TwS w W' n u bt mb s K :=
  ⟨Below.then h.bw hb, h.tb.below hb, h.mp.below hb⟩
/-- a block from B on is written -/
theorem TwS.wrote {w W W' : World} {n : Nat} {u : List Int} {bt mb B : Nat} {s : Value} {K : List (List Int)} {row : Option Nat} (h : TwS w W n u bt mb s K) (hg : W.grownBy W' row) (h1 : w.heap.size ≤ B) (h2 : bt < B) (h3 : mb < B) (hr : ∀ r, row = some r → B ≤ r) : TwS w W' n u bt mb s K :=
  ⟨h.bw.grown hg h.bw.size (fun r e => Nat.le_trans h1 (hr r e)), h.tb.kept hg (fun e => by have := hr _ e.symm; omega), h.mp.grown hg (fun e => by have := hr _ e.symm; omega)⟩
/-- the map is written -/
theorem TwS.put {w W W' : World} {n : Nat} {u : List Int} {bt mb : Nat} {s : Value} {K K' : List (List Int)} (h : TwS w W n u bt mb s K) (hg : W.grownBy W' (some mb)) (h1 : w.heap.size ≤ mb) (h2 : bt ≠ mb) (hm : MpT W' mb n u K') : TwS w W' n u bt mb s K' :=
  ⟨h.bw.grown hg h.bw.size (fun r e => by injection e with e; omega), h.tb.kept hg (fun e => by injection e with e; exact h2 e), hm⟩
theorem rows_get {w : World} {base : Nat} {A : Option Addr} {t c : Nat} {rows : List (List Int)} (h : OwnRows w base (.slice A t c) rows) {j : Nat} (hj : j < rows.length) : ∃ gt B d, A = some ⟨gt, 0, none⟩ ∧ gt < w.heap.size ∧ rows.length = t ∧ t ≤ c ∧ c ≤ maxLen ∧ w.cell? ⟨gt, j, none⟩ = some (.slice B (rows.getD j []).length d) ∧ Own w base (.slice B (rows.getD j []).length d) (rows.getD j []) := by
  obtain ⟨A', c', e, h1, h2, h3⟩ := h.form
  injection e with e1 e2 e3
  subst e1 e2 e3
  obtain ⟨g, rfl, hg, hx⟩ := h3 (by omega)
  obtain ⟨B, d, h4, h5⟩ := hx j hj
  exact ⟨g, B, d, rfl, hg, rfl, h2, h1, h4, h5⟩
theorem own_block {w : World} {base : Nat} {Y : Option Addr} {n c : Nat} {xs : List Int} (h : Own w base (.slice Y n c) xs) : ∀ a, Y = some a → base ≤ a.block ∧ a.block < w.heap.size := fun a ha => by
  subst ha
  exact h.lt a.block rfl
theorem ownsMap_below {w w' : World} {P : Program} {k : TypeId} {R : Value → Option (DataW Unit × List MemPlace)} {b n : Nat} {D : DataW Unit} (h : w.ownsMap P k R b n D) (hb : Below w.heap.size w w') : w'.ownsMap P k R b n D := by
  obtain ⟨es, cl, h1, h2⟩ := h
  exact ⟨es, cl, (hb.block b (Array.getElem?_eq_some_iff.1 h1).1).trans h1, h2⟩
set_option maxHeartbeats 8000000 in
theorem cTriWay (hp : tourP n xs) (h : Rd w sl xs) (hp2 : tourP n ys) (h2 : Rd w sl2 ys) (h5 : n ≤ 5) (hsc : scL xs n = scL ys n) :
    Calls Tryz.prog 17 #[.agg #[.int .i64 n, sl], .agg #[.int .i64 n, sl2]] w fun e w' => ∃ v rows, e = .returned (.tuple #[v, .bool true]) ∧ RdRows w' v rows ∧ rows.length = tD n ys xs ∧ rows.length ≤ 1024 ∧ tCh n xs rows ys ∧ Below w.heap.size w w' := by
  have HR := Lib.hid h
  have HR2 := Lib.hid h2
  have HP := Lib.hid hp
  have HP2 := Lib.hid hp2
  have HSC := Lib.hid hsc
  have H5 := Lib.hid h5
  have h8 : n ≤ 8 := by omega
  obtain ⟨A, c, rfl, -, -, -⟩ := h
  obtain ⟨B, d, rfl, -, -, hBc⟩ := h2
  have hBl : ∀ a, B = some a → a.block < w.heap.size := fun a ha => by
    obtain ⟨b, off, e, hlt, -⟩ := hBc (by rw [tour_len hp2]; have := hp2.1; omega)
    rw [ha] at e
    injection e with e
    subst e
    exact hlt
  have HBL := Lib.hid hBl
  clear hBc hBl
  rw [tour_len hp] at *
  rw [tour_len hp2] at *
  clear hp hp2 hsc h5
  have hmm := @run_makeMap Tryz.prog
  go_enter Tryz.func17, Tryz.ntmps17
  have bx := (below_alloc1 w (.cells #[.int .i64 n, .slice A n c] 25)).alloc (by simp) (.cells #[.int .i64 n, .slice B n d] 25)
  have tx := (BoxF.new w n (.slice A n c) 25).below (below_alloc1 _ (.cells #[.int .i64 n, .slice B n d] 25))
  have tx2 := TBox.new (w.alloc (.cells #[.int .i64 n, .slice A n c] 25)) n (.slice B n d) 25
  have sx : ((w.alloc (.cells #[.int .i64 n, .slice A n c] 25)).alloc (.cells #[.int .i64 n, .slice B n d] 25)).heap.size = w.heap.size + 2 := by simp
  simp only [World.size_alloc] at tx2
  go_wp2_with fail
  generalize (w.alloc (.cells #[.int .i64 n, .slice A n c] 25)).alloc (.cells #[.int .i64 n, .slice B n d] 25) = w0 at *
  have HB0 := Lib.hid bx
  have HA0 := Lib.hid tx
  have HC0 := Lib.hid tx2
  have HZ0 := Lib.hid sx
  clear bx tx tx2 sx
  have y0 := HA0.out.1.1
  have y1 := HA0.out.1.2
  have x0 := HC0.out.1
  have x1 := HC0.out.2
  go_wp2_with fail
  refine (cSameSc HP.out (HR.out.below HB0.out) HP2.out (HR2.out.below HB0.out) H5.out HSC.out).mono ?_
  rintro e w1 ⟨rfl, hb1⟩
  have HA1 := Lib.hid (HA0.out.below hb1)
  have HC1 := Lib.hid (HC0.out.below hb1)
  have HB1 := Lib.hid (Below.then HB0.out hb1)
  have hz1 : w.heap.size + 2 ≤ w1.heap.size := by have := hb1.size; rw [HZ0.out] at this; exact this
  clear hb1 y0 y1 x0 x1 HA0 HC0 HB0 HZ0
  have ba := below_alloc1 w1 (.map #[] 0)
  have om := World.ownsMap_made (H := Unit) w1 Tryz.prog 9 (plainElem Tryz.prog 3)
  have hz2 : (w1.alloc (.map #[] 0)).heap.size = w1.heap.size + 1 := by simp
  have ta := HA1.out.below ba
  have tc := HC1.out.below ba
  have x0 := tc.1
  have x1 := tc.2
  go_wp2_with fail
  obtain ⟨mb, hmb⟩ : ∃ mb, mb = w1.heap.size := ⟨_, rfl⟩
  rw [← hmb] at om hz1 hz2 ⊢
  generalize w1.alloc (.map #[] 0) = w2 at *
  have HA2 := Lib.hid ta
  have HC2 := Lib.hid tc
  have HB2 := Lib.hid (Below.then HB1.out ba)
  have HOM := Lib.hid om
  have HZ2 := Lib.hid hz2
  clear hmb ba om hz2 HA1 HC1 HB1 ta tc
  refine (cFormat HP2.out (HR2.out.below HB2.out)).mono ?_
  rintro e w3 ⟨rfl, hb3⟩
  have HA3 := Lib.hid (HA2.out.below hb3)
  have HC3 := Lib.hid (HC2.out.below hb3)
  have HB3 := Lib.hid (Below.then HB2.out hb3)
  have HO3 := Lib.hid (ownsMap_below HOM.out hb3)
  have hz3 : mb + 1 ≤ w3.heap.size := by have := hb3.size; rw [HZ2.out] at this; exact this
  clear hb3 x0 x1 HA2 HC2 HB2 HOM HZ2
  go_wp2_with (refine wp_insertT _ rfl _ _ _ rfl mb n h8 ys HP2.out rfl HO3.out rfl rfl ?_; intro w4 hmp hg4; have HA4 := Lib.hid (HA3.out.kept hg4 (by simp; omega)); have HC4 := Lib.hid (HC3.out.grown hg4 HC3.out.lt (by simp; omega)); have HB4 := Lib.hid (HB3.out.grown hg4 HB3.out.size (by simp; omega)); have hz4 : mb + 1 ≤ w4.heap.size := Nat.le_trans hz3 hg4.size; have HM4 := Lib.hid hmp; have x0 := HC4.out.1; have x1 := HC4.out.2; clear hmp hg4)
  have HQ5 : Hid (QT (w4.alloc (.cells #[.int .i64 n, .slice B n d] 25)) (fun g => mb + 1 ≤ g) (.slice (some ⟨w4.heap.size, 0, none⟩) 1 1) n [ys]) := Lib.hid (QT.one hz4 (HR2.out.below HB4.out) (fun a ha => Nat.lt_of_lt_of_le (HBL.out a ha) HB4.out.size) _)
  have b5 := below_alloc1 w4 (.cells #[.int .i64 n, .slice B n d] 25)
  have HS5 : Hid (TwS w (w4.alloc (.cells #[.int .i64 n, .slice B n d] 25)) n ys w.heap.size mb (.slice A n c) [ys]) := Lib.hid ⟨Below.then HB4.out b5, HA4.out.below b5, HM4.out.below b5⟩
  have HI5 : Hid (BfI n ys [ys] [ys]) := Lib.hid (BfI.start HP2.out)
  clear b5 x0 x1 HA3 HC3 HB3 HO3 HA4 HC4 HB4 HM4 hz3
  generalize hw5 : w4.alloc (.cells #[.int .i64 n, .slice B n d] 25) = w5 at *
  generalize w4.heap.size = qb at *
  clear hw5
  go_loopg [7] 2048 (fun k q wr => ∃ (K Q : List (List Int)), 2 * (1024 - K.length) + Q.length ≤ k ∧ Hid (Q.length ≤ K.length) ∧ Hid (BfI n ys K Q) ∧ Hid (QT wr (fun g => mb + 1 ≤ g) q n Q) ∧ Hid (TwS w wr n ys w.heap.size mb (.slice A n c) K))
  case atStart => exact ⟨[ys], [ys], by simp, Lib.hid (by simp), HI5, HQ5, HS5⟩
  case round =>
    obtain ⟨wk, rfl⟩ : ∃ x, x = wr := ⟨_, rfl⟩
    obtain ⟨K, Q, hk, HLE, HI, HQ, HS⟩ := hrel
    clear HI5 HQ5 HS5 hz4
    rcases Q with _ | ⟨q, Q1⟩
    case nil =>
      obtain ⟨g, off, cap, rfl, -⟩ := HQ.out
      have hre : tRe n ys xs := same_join HP2.out HP.out H5.out HSC.out.symm
      have HRE := Lib.hid hre
      have hxk : xs ∈ K := by
        obtain ⟨k, hk⟩ := hre
        exact HI.out.full hk
      have HXK := Lib.hid hxk
      have dxk : decide (xs ∈ K) = true := decide_eq_true hxk
      have y0 := HS.out.tb.1.1
      have y1 := HS.out.tb.1.2
      clear hre hxk
      go_wp2_with fail
      refine (cFormat HP.out (HR.out.below HS.out.bw)).mono ?_
      rintro e w6 ⟨rfl, hb6⟩
      have HS6 := Lib.hid (HS.out.next hb6)
      clear hb6 y0 y1 HS HQ
      go_wp2_with (first | (at_lookup; refine wp_lookup_okT _ rfl _ _ rfl mb n h8 ys xs K HP.out rfl HS6.out.mp rfl ?_; intro cv hcv; obtain rfl := hcv HXK.out))
      have HCL : Hid (∀ x y, tRe n ys x → tAdj n x y → y ∈ K) := Lib.hid fun x y hx hy => by
        obtain ⟨k, hk⟩ := hx.snoc hy
        exact HI.out.full hk
      have hD0 := HI.out.far1 H5.out HRE.out
      obtain ⟨D0, hD⟩ : ∃ D0, D0 = tD n ys xs := ⟨_, rfl⟩
      have HDE := Lib.hid hD
      rw [← hD] at hD0 ⊢
      obtain ⟨b1, hb1⟩ : ∃ b1, b1 = w6.heap.size := ⟨_, rfl⟩
      have hb1m : mb < b1 := by rw [hb1]; exact HS6.out.mp.lt
      have hb1z : b1 ≤ w6.heap.size := by omega
      have HX6 : Hid (Rd w6 (.slice A n c) xs) := Lib.hid (HR.out.below HS6.out.bw)
      clear hD hb1 hcv dxk HI
      go_loopw [13, 15] (fun t13 t15 wr => ∃ (L : Nat) (cx : List Int) (rows : List (List Int)) (Ac : Option Addr) (cc : Nat), t13 = .int .i64 L ∧ Hid (L = tD n ys cx) ∧ Hid (tourP n cx) ∧ Hid (tRe n ys cx) ∧ Hid (tCh n xs rows cx) ∧ Hid (rows.length + L = D0) ∧ Hid (OwnRows wr b1 t15 rows) ∧ Hid (BoxF wr w.heap.size n (.slice Ac n cc)) ∧ Hid (Rd wr (.slice Ac n cc) cx) ∧ Hid (∀ a r, Ac = some a → t15.ownBlock = some r → a.block ≠ r) ∧ Hid (MpT wr mb n ys K) ∧ Hid (Below w.heap.size w wr) ∧ b1 ≤ wr.heap.size) (fun t13 _ _ => (intOf t13).toNat)
      case atStart => exact ⟨D0, xs, [], A, c, rfl, HDE, HP, HRE, Lib.hid rfl, Lib.hid (by simp), Lib.hid (OwnRows.nil_ _ _), Lib.hid HS6.out.tb, HX6, Lib.hid (fun a r _ e => by simp [Value.ownBlock] at e), Lib.hid HS6.out.mp, Lib.hid HS6.out.bw, hb1z⟩
      case round =>
        obtain ⟨wo, rfl⟩ : ∃ x, x = wr := ⟨_, rfl⟩
        obtain ⟨L, cx, rows, Ac, cc, rfl, HLD, HCP, HCR, HCH, HRL, HOR, HBX, HRX, HDS, HMP, HBW, hbo⟩ := hrel
        clear HS6 HX6 hb1z
        by_cases hL : 0 < L
        · have hd0 : decide ((0 : Int) < (L : Int)) = true := by rw [decide_eq_true_eq]; omega
          have y0 := HBX.out.1.1
          have y1 := HBX.out.1.2
          have hll : L ≤ 1024 := by have := HRL.out; omega
          go_wp2_with fail
          refine (triangles_any n _ cx wo HRX.out HCP.out).mono ?_
          rintro e w7 ⟨tv, rfl, ho7, hb7⟩
          rw [tour_len HCP.out] at ho7
          obtain ⟨AT, cT, rfl, hcT, hlT, -⟩ := ho7.form
          unfold maxLen at hcT
          have HTR : Hid (∀ j, j < (triA cx n n).length → ∃ a b f : Nat, (triA cx n n).getD j [] = [(a : Int), (b : Int), (f : Int)] ∧ tgP cx n a b f) := Lib.hid fun j hj => by
            rw [List.getD_eq_getElem?_getD, List.getElem?_eq_getElem hj]
            exact (mem_tri HCP.out).1 (List.getElem_mem hj)
          have HEX : Hid (∃ j a b f, j < (triA cx n n).length ∧ (triA cx n n).getD j [] = [((a : Nat) : Int), ((b : Nat) : Int), ((f : Nat) : Int)] ∧ tD n ys (rv3 cx a b f) + 1 = L) := Lib.hid (by
            obtain ⟨r, hr, a, b, f, rfl, -, e⟩ := near_ex HP2.out HCR.out (by rw [← HLD.out]; exact hL)
            obtain ⟨j, hj, e2⟩ := List.getElem_of_mem hr
            exact ⟨j, a, b, f, hj, by rw [List.getD_eq_getElem?_getD, List.getElem?_eq_getElem hj]; exact e2, by rw [HLD.out]; exact e⟩)
          have htl : (triA cx n n).length ≤ 512 := by
            have h1 := triA_len cx n n
            have h2 := nmul_le h8 (Nat.le_refl n)
            omega
          have HT7 := Lib.hid ho7
          generalize triA cx n n = T at *
          obtain ⟨t, ht⟩ : ∃ t, t = T.length := ⟨_, rfl⟩
          rw [← ht] at HT7 hlT htl ⊢
          have HTT := Lib.hid ht
          have HB7 := Lib.hid hb7
          have hbt : w.heap.size < b1 := by omega
          clear ht ho7 hb7 y0 y1
          go_wp2
          go_loopw [15, 88] (fun t15 t88 wr => ∃ j : Nat, j ≤ t ∧ t15 = u15 ∧ t88 = .int .i64 j ∧ Hid (∀ i, i < j → ∀ a b f : Nat, T.getD i [] = [(a : Int), (b : Int), (f : Int)] → tD n ys (rv3 cx a b f) + 1 ≠ L) ∧ Hid (Below w7.heap.size w7 wr)) (fun _ t88 _ => t - (intOf t88).toNat)
          case atStart => exact ⟨0, by omega, rfl, rfl, Lib.hid (fun i hi => by omega), Lib.hid (Below.refl _ _)⟩
          case round =>
            obtain ⟨wl, rfl⟩ : ∃ x, x = wr := ⟨_, rfl⟩
            obtain ⟨j, hj, rfl, rfl, HNO, HBL2⟩ := hrel
            by_cases hlt : j < t
            · have HBo := Lib.hid (Below.then HB7.out HBL2.out)
              have HT8 := Lib.hid (HT7.out.below HBL2.out)
              have HBX8 := Lib.hid (HBX.out.below HBo.out)
              have HRX8 := Lib.hid (HRX.out.below HBo.out)
              have HMP8 := Lib.hid (HMP.out.below HBo.out)
              obtain ⟨a, b, f, er, htg⟩ := HTR.out j (by rw [← HTT.out]; exact hlt)
              obtain ⟨n1, n2, n3⟩ := tg_ne HCP.out htg
              have hzt := rv3_tour HCP.out htg.1 htg.2.1 htg.2.2.1 n1 n2 n3
              have hzk : rv3 cx a b f ∈ K := HCL.out _ _ HCR.out ⟨a, b, f, htg, rfl⟩
              obtain ⟨gt, Br, dr, rfl, hgt, -, -, -, zr, hor⟩ := rows_get HT8.out (j := j) (by rw [← HTT.out]; exact hlt)
              rw [er] at zr hor
              have HOW := Lib.hid hor
              have zr3 : wl.cell? ⟨gt, j, none⟩ = some (.slice Br 3 dr) := zr
              have y0 := HBX8.out.1.1
              have y1 := HBX8.out.1.2
              have HER := Lib.hid er
              have HTG := Lib.hid htg
              have HZT := Lib.hid hzt
              have HZK := Lib.hid hzk
              have ha := htg.1
              have hb := htg.2.1
              have hf := htg.2.2.1
              clear zr hor er htg hzt hzk
              go_wp2_with fail
              refine (cTurned HCP.out HRX8.out ha hb hf n1 n2 n3 HOW.out.rd).mono ?_
              rintro e w9 ⟨Y, cy, rfl, ho9, hb9⟩
              have HZ9 := Lib.hid ho9.rd
              obtain ⟨Z, hZ⟩ : ∃ Z, Z = rv3 cx a b f := ⟨_, rfl⟩
              rw [← hZ] at HZ9 HZT HZK
              have HZE := Lib.hid hZ
              have HB9 := Lib.hid (Below.then HBL2.out hb9)
              have HOW9 := Lib.hid (HOW.out.below hb9)
              clear ho9 hb9 hZ zr3 y0 y1 hgt
              go_wp2_with fail
              refine (cFormat HZT.out HZ9.out).mono ?_
              rintro e w10 ⟨rfl, hb10⟩
              have HB10 := Lib.hid (Below.then HB9.out hb10)
              have HOW10 := Lib.hid (HOW9.out.below hb10)
              have HBo10 := Lib.hid (Below.then HB7.out HB10.out)
              have HMP10 := Lib.hid (HMP.out.below HBo10.out)
              have hdl : tD n ys Z ≤ 1025 := by
                have h1 := tD_adj HCR.out ⟨a, b, f, HTG.out, rfl⟩
                rw [← HZE.out, ← HLD.out] at h1
                omega
              obtain ⟨D, hD⟩ : ∃ D, D = tD n ys Z := ⟨_, rfl⟩
              rw [← hD] at hdl
              have HDZ := Lib.hid hD
              clear hb10 hD
              by_cases hdq : D + 1 = L
              · have q1 : ((D : Int) == (L : Int) - 1) = true := by simp; omega
                have hlr : rows.length ≤ 1048576 := by have := HRL.out; omega
                have HLT := Lib.hid (fun k (e : u15.ownBlock = some k) => HOR.out.lt k e)
                have HBX10 := Lib.hid (HBX.out.below HBo10.out)
                have HRX10 := Lib.hid (HRX.out.below HBo10.out)
                have HBW10 := Lib.hid (Below.then HBW.out HBo10.out)
                have HNE := Lib.hid (show (Value.slice Br 3 dr).ownBlock = none ∨ (Value.slice Br 3 dr).ownBlock ≠ u15.ownBlock from by
                  rcases e : (Value.slice Br 3 dr).ownBlock with _ | k
                  · exact .inl rfl
                  · right
                    intro e2
                    have h1 := (HOW10.out.lt k e).1
                    have h2 := (HLT.out k e2.symm).2
                    omega)
                go_wp2_with (first | (at_lookup; refine wp_lookupT _ rfl _ _ rfl mb n h8 ys Z K HZK.out rfl HMP10.out rfl ?_; rw [← HDZ.out]) | (at_builtin; refine wp_append1V w10 rfl (.tmp 101) (.tmp 103) rfl b1 u15 rows (.slice Br 3 dr) [(a : Int), (b : Int), (f : Int)] wo rfl HOR.out HBo10.out HOW10.out hbo (by simp [Act.eval]) hlr ?_; intro v' w11 ho11 hg11; have HO11 := Lib.hid ho11; have HBX11 := Lib.hid (HBX10.out.kept hg11 (fun e => by have := (HLT.out _ e.symm).1; omega)); have HMP11 := Lib.hid (HMP10.out.grown hg11 (fun e => by have := (HLT.out _ e.symm).1; omega)); have HRX11 := Lib.hid (HRX10.out.grown hg11 (fun A' k' c' e e2 => by injection e with e _ _; exact HDS.out A' _ e e2.symm rfl)); have HOW11 := Lib.hid (HOW10.out.kept hg11 HNE.out); have HBW11 := Lib.hid (HBW10.out.grown hg11 HBW10.out.size (fun k e => by have := (HLT.out _ e).1; omega)); have hz11 := hg11.size; clear ho11 hg11; have y0 := HBX11.out.1.1; have y1 := HBX11.out.1.2))
                refine (cTurned HCP.out HRX11.out ha hb hf n1 n2 n3 HOW11.out.rd).mono ?_
                rintro e w12 ⟨Y2, cy2, rfl, ho12, hb12⟩
                rw [← HZE.out] at ho12
                have HYB := Lib.hid (own_block ho12)
                have HBX12 := Lib.hid (HBX11.out.below hb12)
                have HO12 := Lib.hid (HO11.out.below hb12)
                have HMP12 := Lib.hid (HMP11.out.below hb12)
                have HBW12 := Lib.hid (Below.then HBW11.out hb12)
                have hwl : w.heap.size < w11.heap.size := HBX11.out.gt
                have g1 := setCell_grown w12 ⟨w.heap.size, 0, none⟩ (.int .i64 n)
                have g2 := setCell_grown (w12.setCell ⟨w.heap.size, 0, none⟩ (.int .i64 n)) ⟨w.heap.size, 1, none⟩ (.slice Y2 n cy2)
                have HO13 := Lib.hid ((HO12.out.kept_lo g1 (fun k e => by injection e with e; simp only at e; omega)).kept_lo g2 (fun k e => by injection e with e; simp only at e; omega))
                have HBX13 := Lib.hid (HBX12.out.set01 n (.slice Y2 n cy2))
                have HRX13 := Lib.hid ((ho12.kept g1 (own_ne (fun k hk => (ho12.lt k hk).1) hwl)).kept g2 (own_ne (fun k hk => (ho12.lt k hk).1) hwl)).rd
                have HMP13 := Lib.hid ((HMP12.out.set (a := ⟨w.heap.size, 0, none⟩) (by simp; omega) (.int .i64 n)).set (a := ⟨w.heap.size, 1, none⟩) (by simp; omega) (.slice Y2 n cy2))
                have HBW13 := Lib.hid ((HBW12.out.setCell (p := ⟨w.heap.size, 0, none⟩) (Nat.le_refl _) (.int .i64 n)).setCell (p := ⟨w.heap.size, 1, none⟩) (Nat.le_refl _) (.slice Y2 n cy2))
                have HDS13 : Hid (∀ x r, Y2 = some x → v'.ownBlock = some r → x.block ≠ r) := Lib.hid fun x r h1 h2 => by
                  have h3 := (HYB.out x h1).1
                  have h4 := (HO11.out.lt r h2).2
                  omega
                have hz13 : b1 ≤ ((w12.setCell ⟨w.heap.size, 0, none⟩ (.int .i64 n)).setCell ⟨w.heap.size, 1, none⟩ (.slice Y2 n cy2)).heap.size := by
                  have h1 := HB10.out.size
                  have h2 := HB7.out.size
                  refine Nat.le_trans ?_ (Nat.le_trans g1.size g2.size)
                  refine Nat.le_trans ?_ hb12.size
                  exact Nat.le_trans (Nat.le_trans hbo (Nat.le_trans h2 h1)) hz11
                have v0 := HBX12.out.1.1
                have v1 := HBX12.out.1.2
                have f0 := HBX12.out.2 0
                have f1 := HBX12.out.2 1
                clear g1 g2 ho12 hb12 y0 y1
                go_wp2
                go_roundw
                case rel => exact ⟨L - 1, Z, rows ++ [[(a : Int), (b : Int), (f : Int)]], Y2, cy2, by go_num, Lib.hid (by rw [← HDZ.out]; omega), HZT, Lib.hid (HCR.out.snoc ⟨a, b, f, HTG.out, HZE.out⟩), Lib.hid (by have := tCh.snoc HCH.out HTG.out; rwa [← HZE.out] at this), Lib.hid (by have := HRL.out; rw [List.length_append, List.length_singleton]; omega), HO13, HBX13, HRX13, HDS13, HMP13, HBW13, hz13⟩
                case measure => simp [intOf]; omega
              · have q1 : ((D : Int) == (L : Int) - 1) = false := by simp; omega
                go_wp2_with (first | (at_lookup; refine wp_lookupT _ rfl _ _ rfl mb n h8 ys Z K HZK.out rfl HMP10.out rfl ?_; rw [← HDZ.out]))
                go_roundw
                case rel => exact ⟨j + 1, by omega, rfl, by go_num, Lib.hid (fun i hi a' b' f' e => by
                  by_cases hij : i < j
                  · exact HNO.out i hij a' b' f' e
                  · obtain rfl : i = j := by omega
                    have e2 := HER.out.symm.trans e
                    simp only [List.cons.injEq, and_true] at e2
                    obtain ⟨e2, e3, e4⟩ := e2
                    obtain rfl : a = a' := by omega
                    obtain rfl : b = b' := by omega
                    obtain rfl : f = f' := by omega
                    rw [← HZE.out, ← HDZ.out]
                    exact hdq), HB10⟩
                case measure => simp [intOf]; omega
            · as_aux_lemma =>
              exfalso
              obtain ⟨i, a, b, f, hi, e1, e2⟩ := HEX.out
              exact HNO.out i (by have := HTT.out; omega) a b f e1 e2
        · as_aux_lemma =>
          obtain rfl : L = 0 := by omega
          have e0 : ys = cx := (tD_zero HCR.out).1 HLD.out.symm
          have HE0 := Lib.hid e0
          clear e0
          go_wp2
          go_ret2
          exact ⟨_, rows, rfl, HOR.out.rdr, by have := HRL.out; rw [← HDE.out]; omega, by have := HRL.out; omega, by have := HCH.out; rwa [← HE0.out] at this, HBW.out⟩
    case cons =>
      obtain ⟨g, off, cap, A1, c1, rfl, hcap, hcm, hG, hg, z0, z1, hr1⟩ := HQ.out.head
      obtain ⟨m, hm⟩ : ∃ m, m = Q1.length + 1 := ⟨_, rfl⟩
      have HM := Lib.hid hm
      have hm0 : 0 < m := by omega
      have hd0 : decide ((0 : Int) < (m : Int)) = true := by rw [decide_eq_true_eq]; omega
      rw [← hm] at hcap ⊢
      have hqt : tourP n q := HI.out.tr q (HI.out.qk q (by simp))
      have HQT := Lib.hid hqt
      have HQ1 := Lib.hid HQ.out
      unfold maxLen at hcm
      clear hm hqt
      go_wp2_with fail
      refine (triangles_any n (.slice A1 n c1) q wk hr1 HQT.out).mono ?_
      rintro e w3 ⟨tv, rfl, ho3, hb3⟩
      rw [tour_len HQT.out] at ho3
      obtain ⟨AT, cT, rfl, hcT, hlT, -⟩ := ho3.form
      unfold maxLen at hcT
      have HTR : Hid (∀ j, j < (triA q n n).length → ∃ a b f : Nat, (triA q n n).getD j [] = [(a : Int), (b : Int), (f : Int)] ∧ tgP q n a b f) := Lib.hid fun j hj => by
        rw [List.getD_eq_getElem?_getD, List.getElem?_eq_getElem hj]
        exact (mem_tri HQT.out).1 (List.getElem_mem hj)
      have HTA : Hid (∀ y, tAdj n q y → ∃ j a b f, j < (triA q n n).length ∧ (triA q n n).getD j [] = [((a : Nat) : Int), ((b : Nat) : Int), ((f : Nat) : Int)] ∧ y = rv3 q a b f) := Lib.hid fun y hy => by
        obtain ⟨a, b, f, ht, rfl⟩ := hy
        obtain ⟨j, hj, e⟩ := List.getElem_of_mem ((mem_tri HQT.out).2 ⟨a, b, f, rfl, ht⟩)
        exact ⟨j, a, b, f, hj, by rw [List.getD_eq_getElem?_getD, List.getElem?_eq_getElem hj]; exact e, rfl⟩
      have htl : (triA q n n).length ≤ 512 := by
        have h1 := triA_len q n n
        have h2 := nmul_le h8 (Nat.le_refl n)
        omega
      have HT3 := Lib.hid ho3
      generalize triA q n n = T at *
      obtain ⟨t, ht⟩ : ∃ t, t = T.length := ⟨_, rfl⟩
      rw [← ht] at HT3 hlT htl ⊢
      have HTT := Lib.hid ht
      obtain ⟨a0, ha0⟩ : ∃ a0, a0 = wk.heap.size := ⟨_, rfl⟩
      obtain ⟨b0, hb0⟩ : ∃ b0, b0 = w3.heap.size := ⟨_, rfl⟩
      have HB3 := Lib.hid hb0
      have hab : a0 ≤ b0 := by rw [ha0, hb0]; exact hb3.size
      have hma : mb + 1 ≤ a0 := by rw [ha0]; exact HS.out.mp.lt
      rw [← ha0] at HT3
      have HS3 := Lib.hid (HS.out.next hb3)
      have HQ3 : Hid (QT w3 (fun i => mb + 1 ≤ i ∧ (i < a0 ∨ b0 ≤ i)) (.slice (some ⟨g, off, none⟩) m cap) n (q :: Q1)) := Lib.hid (by
        have h1 := (HQ1.out.imp (G' := fun i => mb + 1 ≤ i ∧ (i < a0 ∨ b0 ≤ i)) (fun i hi hl => ⟨hi, .inl (by rw [ha0]; exact hl)⟩)).below hb3
        rw [HM.out]
        exact h1)
      have hbz : b0 ≤ w3.heap.size := by omega
      clear ho3 hb3 ht ha0 hb0 HQ1 HQ HS z0 z1 hr1 hG hg
      go_wp2
      go_loopw [7, 38] (fun v t38 wr => ∃ (j : Nat) (K2 Q2 : List (List Int)), j ≤ t ∧ t38 = .int .i64 j ∧ Hid (K2.length + Q1.length = K.length + Q2.length ∧ K.length ≤ K2.length) ∧ Hid (BfI n ys K2 (q :: Q2)) ∧ Hid (∀ i, i < j → ∀ a b f : Nat, T.getD i [] = [(a : Int), (b : Int), (f : Int)] → rv3 q a b f ∈ K2) ∧ Hid (QT wr (fun i => mb + 1 ≤ i ∧ (i < a0 ∨ b0 ≤ i)) v n (q :: Q2)) ∧ Hid (TwS w wr n ys w.heap.size mb (.slice A n c) K2) ∧ Hid (∀ i, a0 ≤ i → i < b0 → wr.heap[i]? = w3.heap[i]?) ∧ b0 ≤ wr.heap.size) (fun _ t38 _ => t - (intOf t38).toNat)
      case atStart => exact ⟨0, K, Q1, by omega, rfl, Lib.hid ⟨rfl, Nat.le_refl _⟩, HI, Lib.hid (fun i hi => by omega), HQ3, HS3, Lib.hid (fun _ _ _ => rfl), hbz⟩
      case round =>
        obtain ⟨wl, rfl⟩ : ∃ x, x = wr := ⟨_, rfl⟩
        obtain ⟨j, K2, Q2, hj, rfl, HKL, HI2, HD2, HQ2, HS2, HSN, hbl⟩ := hrel
        clear HS3 HQ3 hbz HI
        by_cases hlt : j < t
        · have HBD : Hid (K2.length ≤ 1024) := Lib.hid (HI2.out.bound H5.out)
          have HFR : Hid (tD n ys q ≤ 1024) := Lib.hid (HI2.out.far H5.out)
          obtain ⟨a, b, f, er, htg⟩ := HTR.out j (by rw [← HTT.out]; exact hlt)
          obtain ⟨n1, n2, n3⟩ := tg_ne HQT.out htg
          have hzt := rv3_tour HQT.out htg.1 htg.2.1 htg.2.2.1 n1 n2 n3
          have hro := HT3.out.snap (w' := wl) (fun i h1 h2 => HSN.out i h1 (by rw [HB3.out]; exact h2))
          obtain ⟨gt, Br, dr, rfl, hgt, -, -, -, zr, hor⟩ := rows_get hro (j := j) (by rw [← HTT.out]; exact hlt)
          rw [er] at zr hor
          have hrd := hor.rd
          have zr3 : wl.cell? ⟨gt, j, none⟩ = some (.slice Br 3 dr) := zr
          obtain ⟨g2, off2, cap2, A2, c2, rfl, hcap2, hcm2, hG2, hg2, z0, z1, hr2⟩ := HQ2.out.head
          obtain ⟨m2, hm2⟩ : ∃ m2, m2 = Q2.length + 1 := ⟨_, rfl⟩
          have HM2 := Lib.hid hm2
          have hm20 : 0 < m2 := by omega
          rw [← hm2] at hcap2 ⊢
          unfold maxLen at hcm2
          have HER := Lib.hid er
          have HTG := Lib.hid htg
          have HZT := Lib.hid hzt
          have ha := htg.1
          have hb := htg.2.1
          have hf := htg.2.2.1
          clear hm2 zr hor hro er htg hzt
          go_wp2_with fail
          refine (cTurned HQT.out hr2 ha hb hf n1 n2 n3 hrd).mono ?_
          rintro e w6 ⟨Y, cy, rfl, ho6, hb6⟩
          have HOB := Lib.hid (own_block ho6)
          have HRZ := Lib.hid ho6.rd
          obtain ⟨Z, hZ⟩ : ∃ Z, Z = rv3 q a b f := ⟨_, rfl⟩
          rw [← hZ] at HRZ HZT
          have HZE := Lib.hid hZ
          have HS6 := Lib.hid (HS2.out.next hb6)
          have HQ6 := Lib.hid (HQ2.out.below hb6)
          have HSN6 : Hid (∀ i, a0 ≤ i → i < b0 → w6.heap[i]? = w3.heap[i]?) := Lib.hid fun i h1 h2 => (hb6.block i (Nat.lt_of_lt_of_le h2 hbl)).trans (HSN.out i h1 h2)
          have hbl6 : b0 ≤ w6.heap.size := Nat.le_trans hbl hb6.size
          have HGL : Hid (∀ x, Y = some x → g2 < x.block) := Lib.hid fun x hx => Nat.lt_of_lt_of_le hg2 (HOB.out x hx).1
          clear ho6 hb6 hZ hrd hr2 z0 z1 zr3 hgt HS2 HQ2 HSN hbl hg2
          obtain ⟨bn, hbn⟩ : ∃ bn, bn = w6.heap.size := ⟨_, rfl⟩
          have bz := below_alloc1 w6 (.cells #[.int .i64 n, .slice Y n cy] 25)
          have tz := TBox.new w6 n (.slice Y n cy) 25
          have x0 := tz.1
          have x1 := tz.2
          go_wp2_with fail
          rw [← hbn] at tz x0 x1 ⊢
          generalize hw7 : w6.alloc (.cells #[.int .i64 n, .slice Y n cy] 25) = w7 at *
          have HT7 := Lib.hid tz
          have HS7 := Lib.hid (HS6.out.next bz)
          have HQ7 := Lib.hid (HQ6.out.below bz)
          have HRZ7 := Lib.hid (HRZ.out.below bz)
          have HSN7 : Hid (∀ i, a0 ≤ i → i < b0 → w7.heap[i]? = w3.heap[i]?) := Lib.hid fun i h1 h2 => (bz.block i (Nat.lt_of_lt_of_le h2 hbl6)).trans (HSN6.out i h1 h2)
          have hbl7 : b0 ≤ w7.heap.size := Nat.le_trans hbl6 bz.size
          have HOB7 : Hid (∀ x, Y = some x → x.block < w7.heap.size) := Lib.hid fun x hx => Nat.lt_of_lt_of_le (HOB.out x hx).2 bz.size
          have hbb : b0 ≤ bn := by rw [hbn]; exact hbl6
          clear hw7 bz tz HS6 HQ6 HRZ HSN6 hbl6 HOB hbn
          refine (cFormat HZT.out HRZ7.out).mono ?_
          rintro e w8 ⟨rfl, hb8⟩
          have HT8 := Lib.hid (HT7.out.below hb8)
          have HS8 := Lib.hid (HS7.out.next hb8)
          have HQ8 := Lib.hid (HQ7.out.below hb8)
          have HRZ8 := Lib.hid (HRZ7.out.below hb8)
          have HSN8 : Hid (∀ i, a0 ≤ i → i < b0 → w8.heap[i]? = w3.heap[i]?) := Lib.hid fun i h1 h2 => (hb8.block i (Nat.lt_of_lt_of_le h2 hbl7)).trans (HSN7.out i h1 h2)
          have hbl8 : b0 ≤ w8.heap.size := Nat.le_trans hbl7 hb8.size
          have HOB8 : Hid (∀ x, Y = some x → x.block < w8.heap.size) := Lib.hid fun x hx => Nat.lt_of_lt_of_le (HOB7.out x hx) hb8.size
          clear hb8 x0 x1 HT7 HS7 HQ7 HRZ7 HSN7 hbl7 HOB7
          rcases qk : decide (Z ∈ K2) with _ | _
          · as_aux_lemma =>
            have hnk : Z ∉ K2 := of_decide_eq_false qk
            have HNK := Lib.hid hnk
            clear hnk
            go_wp2_with (first | (at_lookup; refine wp_lookup_okT _ rfl _ _ rfl mb n h8 ys Z K2 HZT.out rfl HS8.out.mp rfl ?_; intro cv _))
            obtain ⟨g3, off3, cap3, A3, c3, e3, hcap3, hcm3, hG3, hg3, z0, z1, hr3⟩ := HQ8.out.head
            rw [← HM2.out] at e3
            injection e3 with e3 _ e4
            injection e3 with e3
            injection e3 with e3 e5 _
            subst e3 e5 e4
            have hKt := HI2.out.tr
            have hqK := HI2.out.qk q (by simp)
            obtain ⟨HI3, hdz⟩ := HI2.out.add ⟨a, b, f, HTG.out, HZE.out⟩ HNK.out
            have HKT := Lib.hid hKt
            have HQK := Lib.hid hqK
            have HI3' := Lib.hid HI3
            have HDZ := Lib.hid hdz
            have hfr := HFR.out
            have KL := Lib.hid (fun W (hW : Below w8.heap.size w8 W) => ((HS8.out.next hW).mp.look h8 HQK.out))
            generalize hD : tD n ys q = D at *
            have HDE := Lib.hid hD
            have HR3 := Lib.hid hr3
            have Z0 := Lib.hid z0
            have Z1 := Lib.hid z1
            have hEF : ∀ (args : Array Value) (W : World), (callFunc 41 args).run Tryz.prog W = .ok (.enter 41 args) W := fun args W => by kernel_rfl
            have hg8 : g2 < w8.heap.size := hg3
            have KS : Hid (∀ W, Below w8.heap.size w8 W → (W.cell? ⟨bn, 0, none⟩ = some (.int .i64 n) ∧ W.cell? ⟨bn, 1, none⟩ = some (.slice Y n cy) ∧ W.cell? ⟨g2, off2, none⟩ = some (.int .i64 n) ∧ W.cell? ⟨g2, off2 + 1, none⟩ = some (.slice A3 n c3) ∧ (Instr.lookup 64 (.map (some mb)) (.string ⟨(fmL q n).toArray⟩) false).run Tryz.prog W = .ok (.int .i64 D) W)) :=
              Lib.hid fun W hW => ⟨(HT8.out.below hW).1, (HT8.out.below hW).2, (hW.cell (p := ⟨g2, off2, none⟩) hg8).trans Z0.out, (hW.cell (p := ⟨g2, off2 + 1, none⟩) hg8).trans Z1.out, KL.out W hW⟩
            clear z0 z1 hr3 hKt hqK HI3 hdz hcap3 hcm3 hG3 hg3 hD KL
            have BD : Below w8.heap.size w8 w8.drew := (Below.refl _ _).drew
            refine wp_region_heldT 10 (fun W => W.cell? ⟨bn, 0, none⟩ = some (.int .i64 n) ∧ W.cell? ⟨bn, 1, none⟩ = some (.slice Y n cy) ∧ W.cell? ⟨g2, off2, none⟩ = some (.int .i64 n) ∧ W.cell? ⟨g2, off2 + 1, none⟩ = some (.slice A3 n c3) ∧ (Instr.lookup 64 (.map (some mb)) (.string ⟨(fmL q n).toArray⟩) false).run Tryz.prog W = .ok (.int .i64 D) W) (by kernel_rfl) (by kernel_rfl) (KS.out _ BD) (fun hS0 => ?_)
            refine GoT.take (i := 0) (v := ?v0_1) rfl (by kernel_rfl) (by rfl) (by kernel_rfl) (by kernel_rfl) (fun _ _ _ h => h) (Or.inl ⟨by rfl, ?hy0_1⟩) hS0 ?rest0_1
            case hy0_1 =>
              intro W hSw
              (try dsimp only at hSw)
              go_simp
              first | done | (with_reducible rfl)
            try simp only [Act.put, List.setIfInBounds_toArray, List.set_cons_zero, List.set_cons_succ]
            refine GoT.take (i := 1) (v := ?v1_2) rfl (by kernel_rfl) (by rfl) (by kernel_rfl) (by kernel_rfl) (fun _ _ _ h => h) (Or.inl ⟨by rfl, ?hy1_2⟩) hS0 ?rest1_2
            case hy1_2 =>
              intro W hSw
              (try dsimp only at hSw)
              go_simp
              first | done | (with_reducible rfl)
            try simp only [Act.put, List.setIfInBounds_toArray, List.set_cons_zero, List.set_cons_succ]
            refine GoT.take (i := 3) (v := ?v3_3) rfl (by kernel_rfl) (by rfl) (by kernel_rfl) (by kernel_rfl) (fun _ _ _ h => h) (Or.inl ⟨by rfl, ?hy3_3⟩) hS0 ?rest3_3
            case hy3_3 =>
              intro W hSw
              (try dsimp only at hSw)
              go_simp
              first | done | (with_reducible rfl)
            try simp only [Act.put, List.setIfInBounds_toArray, List.set_cons_zero, List.set_cons_succ]
            refine GoT.take (i := 4) (v := ?v4_4) rfl (by kernel_rfl) (by rfl) (by kernel_rfl) (by kernel_rfl) (fun _ _ _ h => h) (Or.inl ⟨by rfl, ?hy4_4⟩) hS0 ?rest4_4
            case hy4_4 =>
              intro W hSw
              (try dsimp only at hSw)
              go_simp
              first | done | (with_reducible rfl)
            try simp only [Act.put, List.setIfInBounds_toArray, List.set_cons_zero, List.set_cons_succ]
            refine GoT.take (i := 5) (v := ?v5_5) rfl (by kernel_rfl) (by rfl) (by kernel_rfl) (by kernel_rfl) (fun _ _ _ h => h) (Or.inl ⟨by rfl, ?hy5_5⟩) hS0 ?rest5_5
            case hy5_5 =>
              intro W hSw
              (try dsimp only at hSw)
              go_simp
              first | done | (with_reducible rfl)
            try simp only [Act.put, List.setIfInBounds_toArray, List.set_cons_zero, List.set_cons_succ]
            refine GoT.take (i := 6) (v := ?v6_6) rfl (by kernel_rfl) (by rfl) (by kernel_rfl) (by kernel_rfl) (fun _ _ _ h => h) (Or.inl ⟨by rfl, ?hy6_6⟩) hS0 ?rest6_6
            case hy6_6 =>
              intro W hSw
              (try dsimp only at hSw)
              go_simp
              first | done | (with_reducible rfl)
            try simp only [Act.put, List.setIfInBounds_toArray, List.set_cons_zero, List.set_cons_succ]
            refine GoT.one (i := 2) rfl (by rfl) (by kernel_rfl) (fun K hK => ?_)
            refine step_call w8.drew (by rfl) 41 #[.tmp 57] _ (by rfl) #[.agg #[.int .i64 n, .slice Y n cy]] (by simp [Act.eval]) hEF ((cFormat HZT.out (HRZ8.out.below BD)).mono ?_)
            rintro e v1 ⟨rfl, hb1⟩
            refine ⟨_, rfl, ?_⟩
            have B1 := Below.then BD hb1
            clear hb1
            refine hK.out _ _ (KS.out _ B1) (fun hS1 => ?_)
            clear hK K
            simp only [Act.put, List.setIfInBounds_toArray, List.set_cons_zero, List.set_cons_succ]
            refine GoT.one (i := 7) rfl (by rfl) (by kernel_rfl) (fun K hK => ?_)
            refine step_call v1 (by rfl) 41 #[.tmp 62] _ (by rfl) #[.agg #[.int .i64 n, .slice A3 n c3]] (by simp [Act.eval]) hEF ((cFormat HQT.out (HR3.out.below B1)).mono ?_)
            rintro e wq ⟨rfl, hb2⟩
            refine ⟨_, rfl, ?_⟩
            have B2 := Below.then B1 hb2
            clear hb2
            refine hK.out _ _ (KS.out _ B2) (fun hS2 => ?_)
            clear hK K
            simp only [Act.put, List.setIfInBounds_toArray, List.set_cons_zero, List.set_cons_succ]
            refine GoT.take (i := 8) (v := ?v8_7) rfl (by kernel_rfl) (by rfl) (by kernel_rfl) (by kernel_rfl) (fun _ _ _ h => h) (Or.inl ⟨by rfl, ?hy8_7⟩) hS2 ?rest8_7
            case hy8_7 =>
              intro W hSw
              (try dsimp only at hSw)
              go_simp
              first | done | (with_reducible rfl)
            try simp only [Act.put, List.setIfInBounds_toArray, List.set_cons_zero, List.set_cons_succ]
            refine GoT.take (i := 9) (v := ?v9_8) rfl (by kernel_rfl) (by rfl) (by kernel_rfl) (by kernel_rfl) (fun _ _ _ h => h) (Or.inl ⟨by rfl, ?hy9_8⟩) hS2 ?rest9_8
            case hy9_8 =>
              intro W hSw
              (try dsimp only at hSw)
              go_simp
              first | done | (with_reducible rfl)
            try simp only [Act.put, List.setIfInBounds_toArray, List.set_cons_zero, List.set_cons_succ]
            refine GoT.stop (by kernel_rfl) ?_
            simp only [List.drop_succ_cons, List.drop_zero]
            have HT9 := Lib.hid (HT8.out.below B2)
            have HS9 := Lib.hid (HS8.out.next B2)
            have HQ9 := Lib.hid (HQ8.out.below B2)
            have HRZ9 := Lib.hid (HRZ8.out.below B2)
            have HSN9 : Hid (∀ i, a0 ≤ i → i < b0 → wq.heap[i]? = w3.heap[i]?) := Lib.hid fun i h1 h2 => (B2.block i (Nat.lt_of_lt_of_le h2 hbl8)).trans (HSN8.out i h1 h2)
            have hbl9 : b0 ≤ wq.heap.size := Nat.le_trans hbl8 B2.size
            have HOB9 : Hid (∀ x, Y = some x → x.block < wq.heap.size) := Lib.hid fun x hx => Nat.lt_of_lt_of_le (HOB8.out x hx) B2.size
            clear B1 B2 BD hS0 hS1 hS2 KS HT8 HS8 HQ8 HRZ8 HSN8 hbl8 HOB8 HR3 Z0 Z1 hg8 hEF
            have hkl := HBD.out
            have hnz : tD n ys Z = D + 1 := HDZ.out
            have HZN := Lib.hid hnz
            clear hnz
            refine wp_updateT _ rfl _ _ _ rfl mb n h8 ys Z K2 HKT.out HZT.out HNK.out (by omega) rfl HS9.out.mp rfl (D + 1) _ rfl (by first | (rw [IntWalk.i64_in _ (by omega)]; push_cast; rfl) | (push_cast; rfl)) HZN.out.symm (by omega) ?_
            intro w10 hmp10 hg10
            have HT10 := Lib.hid (HT9.out.grown hg10 HT9.out.lt (by simp; omega))
            have HS10 := Lib.hid (HS9.out.put hg10 (by omega) (by omega) hmp10)
            have HRZ10 := Lib.hid (HRZ9.out.grown hg10 (fun A' k' c' e => by have h1 := HRZ9.out; rw [e] at h1; have := HS9.out.mp.ne h1 (by rw [tour_len HZT.out]; have := HZT.out.1; omega); simpa using this))
            have HQ10 := Lib.hid (HQ9.out.grown hg10 (fun r e => by injection e with e; omega) (fun k hk A' c' h1 => h1.grown hg10 (fun A2 k2 c2 e => by rw [e] at h1; have := HS9.out.mp.ne h1 (by rw [tour_len (HKT.out _ (HI2.out.qk _ (by rw [List.getD_eq_getElem?_getD, List.getElem?_eq_getElem hk]; exact List.getElem_mem hk)))]; have := HZT.out.1; omega); simpa using this)))
            have HSN10 : Hid (∀ i, a0 ≤ i → i < b0 → w10.heap[i]? = w3.heap[i]?) := Lib.hid (fun i h1 h2 => (hg10.block i (Nat.lt_of_lt_of_le h2 hbl9) (by simp; omega)).trans (HSN9.out i h1 h2))
            have hbl10 : b0 ≤ w10.heap.size := Nat.le_trans hbl9 hg10.size
            have HOB10 : Hid (∀ x, Y = some x → x.block < w10.heap.size) := Lib.hid (fun x hx => Nat.lt_of_lt_of_le (HOB9.out x hx) hg10.size)
            clear hmp10 hg10 HT9 HS9 HQ9 HRZ9 HSN9 hbl9 HOB9
            have x0 := HT10.out.1
            have x1 := HT10.out.2
            have hlq : (q :: Q2).length ≤ 1048576 := by
              have h2 := HI3'.out.bound H5.out
              rw [List.length_append, List.length_singleton] at h2
              have h3 := HKL.out.1
              have h4 := HLE.out
              simp only [List.length_cons] at h4 ⊢
              omega
            have HX11 := Lib.hid (HS10.out.next (below_alloc1 w10 (.cells #[.int .i64 n, .slice Y n cy] 25)))
            go_wp2_with (at_builtin; (refine wp_appendQ w10 rfl (.tmp 66) (.tmp 68) rfl (fun i => mb + 1 ≤ i ∧ (i < a0 ∨ b0 ≤ i)) (.slice (some ⟨g2, off2, none⟩) m2 cap2) n (q :: Q2) Z Y cy rfl (by rw [HM2.out]; exact HQ10.out) HRZ10.out (fun x hx => ⟨HOB10.out x hx, fun g' o' k' p' e => by injection e with e _ _; injection e with e; injection e with e _ _; have := HGL.out x hx; omega⟩) (by simp [Act.eval]) hlq (by omega) ?_); intro v' w11 hq11 hg11 hr11; have HQ11 := Lib.hid hq11; have HS11 := Lib.hid (HX11.out.wrote (B := mb + 1) hg11 (by omega) (by omega) (by omega) (fun r e => (hr11 r e).1)); have HSN11 : Hid (∀ i, a0 ≤ i → i < b0 → w11.heap[i]? = w3.heap[i]?) := Lib.hid (fun i h1 h2 => ((hg11.block i (by simp; omega) (fun e => by have := hr11 i e.symm; omega)).trans ((below_alloc1 w10 _).block i (by omega))).trans (HSN10.out i h1 h2)); have hbl11 : b0 ≤ w11.heap.size := Nat.le_trans (by simp; omega) hg11.size; clear hq11 hg11 hr11)
            go_roundw
            case rel => exact ⟨j + 1, K2 ++ [Z], Q2 ++ [Z], by omega, by go_num, Lib.hid (by have := HKL.out; rw [List.length_append, List.length_append, List.length_singleton]; exact ⟨by have := this.1; omega, by have := this.2; omega⟩), HI3', Lib.hid (fun i hi a' b' f' e => by
              by_cases hij : i < j
              · exact List.mem_append_left _ (HD2.out i hij a' b' f' e)
              · obtain rfl : i = j := by omega
                have e2 := HER.out.symm.trans e
                simp only [List.cons.injEq, and_true] at e2
                obtain ⟨e2, e3, e4⟩ := e2
                obtain rfl : a = a' := by omega
                obtain rfl : b = b' := by omega
                obtain rfl : f = f' := by omega
                rw [← HZE.out]
                exact List.mem_append_right _ (by simp)), HQ11, HS11, HSN11, hbl11⟩
            case measure => simp [intOf]; omega
          · as_aux_lemma =>
            have hnk : Z ∈ K2 := of_decide_eq_true qk
            have HNK := Lib.hid hnk
            clear hnk
            go_wp2_with (first | (at_lookup; refine wp_lookup_okT _ rfl _ _ rfl mb n h8 ys Z K2 HZT.out rfl HS8.out.mp rfl ?_; intro cv _))
            go_roundw
            case rel => exact ⟨j + 1, K2, Q2, by omega, by go_num, HKL, HI2, Lib.hid (fun i hi a' b' f' e => by
              by_cases hij : i < j
              · exact HD2.out i hij a' b' f' e
              · obtain rfl : i = j := by omega
                have e2 := HER.out.symm.trans e
                simp only [List.cons.injEq, and_true] at e2
                obtain ⟨e2, e3, e4⟩ := e2
                obtain rfl : a = a' := by omega
                obtain rfl : b = b' := by omega
                obtain rfl : f = f' := by omega
                rw [← HZE.out]
                exact HNK.out), by rw [← HM2.out] at *; exact HQ8, HS8, HSN8, hbl8⟩
            case measure => simp [intOf]; omega
        · as_aux_lemma =>
          obtain rfl : j = t := by omega
          have HC : Hid (∀ y, tAdj n q y → y ∈ K2) := Lib.hid fun y hy => by
            obtain ⟨i, a, b, f, hi, e1, rfl⟩ := HTA.out y hy
            exact HD2.out i (by rw [HTT.out]; exact hi) a b f e1
          obtain ⟨g2, off2, cap2, A2, c2, rfl, hcap2, hcm2, hG2, hg2, -, -, -⟩ := HQ2.out.head
          obtain ⟨m2, hm2⟩ : ∃ m2, m2 = Q2.length + 1 := ⟨_, rfl⟩
          have HM2 := Lib.hid hm2
          have hm20 : 0 < m2 := by omega
          rw [← hm2] at hcap2 ⊢
          unfold maxLen at hcm2
          clear hm2
          have HKM := Lib.hid (HI2.out.bound H5.out)
          have HMS : Hid (2 * (1024 - K2.length) + Q2.length < gk) := Lib.hid (by
            have h1 := HKL.out.1
            have h2 := HKL.out.2
            have h3 := HKM.out
            simp only [List.length_cons] at hk
            omega)
          have HLE2 : Hid (Q2.length ≤ K2.length) := Lib.hid (by
            have h1 := HKL.out.1
            have h4 := HLE.out
            simp only [List.length_cons] at h4
            omega)
          have HI3 := Lib.hid (HI2.out.pop HC.out)
          have HQ3 := Lib.hid (HQ2.out.imp (G' := fun i => mb + 1 ≤ i) (fun i h _ => h.1))
          by_cases hc1 : cap2 = 1
          · subst hc1
            have HQ4 : Hid (QT wl (fun i => mb + 1 ≤ i) (.slice (some ⟨g2, off2, none⟩) 0 0) n Q2) := Lib.hid (by
              have h1 := QT.tail1 HQ3.out off2
              have h2 : Q2.length = 0 := by have := HM2.out; omega
              rwa [h2] at h1)
            go_wp2
            go_roundg (2 * (1024 - K2.length) + Q2.length)
            case measure => exact HMS.out
            case rel => exact ⟨K2, Q2, Nat.le_refl _, HLE2, HI3, HQ4, HS2⟩
          · have HQ4 : Hid (QT wl (fun i => mb + 1 ≤ i) (.slice (some ⟨g2, off2 + 2, none⟩) (m2 - 1) (cap2 - 1)) n Q2) := Lib.hid (by
              have h1 := QT.tail HQ3.out hc1
              rwa [show m2 - 1 = Q2.length by have := HM2.out; omega])
            go_wp2
            go_roundg (2 * (1024 - K2.length) + Q2.length)
            case measure => exact HMS.out
            case rel => exact ⟨K2, Q2, Nat.le_refl _, HLE2, HI3, HQ4, HS2⟩
end Go.Proofs.YthoodjjjklbggaaGreatDoor

