/- Texts put together: WayOn. -/
import Derived.Test.YtbkiedhaacapbaaGreatMTop05
import Derived.Test.YtbkiedhaacapbaaGreatMTop01
import Derived.Test.YtbkiedhaacapbaaGreatMTop09
import Derived.Lib.SliceRun
namespace Go.Proofs.YtbkiedhaacapbaaGreat
open Go.RowKit Go.Sort
set_option maxRecDepth 100000
theorem run_neq_slice_nil {P : Program} (w : World) (t e : TypeId) (a : Option Addr) (n c n' c' : Nat) (h : P.underlying t = some (.slice e)) :
    (binOp .neq t (.slice a n c) (.slice none n' c')).run P w = .ok (.bool (!a.isNone)) w := by
  simp only [binOp]
  simp [Op.equal, Op.maxDepth, Lib.run_equalIn_slice_nil w 9999 t e a n c n' c' h]
theorem grown_new {a b c : World} {row row' : Option Nat} (h : a.grownBy b row) (k : b.grownBy c row') (hn : ∀ g, row' = some g → a.heap.size ≤ g ∨ some g = row) : a.grownBy c row :=
  ⟨k.os.trans h.os, k.tape.trans h.tape, k.output.trans h.output, Nat.le_trans h.size k.size, fun i hi hne => (k.block i (Nat.lt_of_lt_of_le hi h.size) (fun e => by
    rcases hn i e.symm with h1 | h1
    · omega
    · exact hne h1)).trans (h.block i hi hne)⟩
theorem grown_below {a b : World} (h : Below a.heap.size a b) (row : Option Nat) : a.grownBy b row := ⟨h.os, h.tape, h.output, h.size, fun i hi _ => h.block i hi⟩
theorem below_of_grown {C a b : World} {row : Option Nat} (h : Below C.heap.size C a) (k : a.grownBy b row) (hr : ∀ g, row = some g → C.heap.size ≤ g) : Below C.heap.size C b := h.grown k h.size hr
theorem memN_at' {S n b : Nat} (h : b ∈ memN S n) : b < n := (mem_memN.1 h).1
theorem cell_new1 (w : World) (x : Value) (t : TypeId) : (w.alloc (.cells #[x] t)).cell? ⟨w.heap.size, 0, none⟩ = some x := by simp
theorem ne5 {W : World} {B g g5 q l c c5 : Nat} (hB : B < W.heap.size) (hg : B ≠ g) (hat : Value.slice (some ⟨g, 0, none⟩) q c = .slice (some ⟨g5, 0, none⟩) l c5 ∨ g5 = W.heap.size) : some B ≠ (Value.slice (some ⟨g5, 0, none⟩) (l + 1) c5).ownBlock := by
  intro h
  injection h with h
  have h : B = g5 := h
  rcases hat with e | e
  · injection e with e1 _ _
    injection e1 with e1
    injection e1 with e1 _ _
    omega
  · omega
def WantP (F : FuncId) (caps : Array Value) (want : List Nat → Bool) (k n : Nat) (wC : World) : Prop :=
  ∀ (way : List Nat) (v : Value) (W : World), way.length = k → (∀ x ∈ way, x < n) → Below wC.heap.size wC W → Rd W v (nI way) →
    Calls Tryz.prog F (#[v] ++ caps) W fun e w'' => e = .returned (.bool (want way)) ∧ Below W.heap.size W w''
def WayPost (xs : List Int) (want : List Nat → Bool) (k m : Nat) (way : List Nat) (base : Nat) (v : Value) (w : World) (e : Ending) (w' : World) : Prop :=
  ∃ v', e = .returned v' ∧ (∀ L, dfs xs xs.length want m way = some L → (∃ g c, v' = .slice (some ⟨g, 0, none⟩) k c) ∧ Own w' w.heap.size v' (nI L)) ∧ (dfs xs xs.length want m way = none → v' = .slice none 0 0) ∧
    w.grownBy w' v.ownBlock ∧ Own w' base v (nI way)
set_option maxHeartbeats 1000000 in
theorem wayOn_zero (s : Int) (sl : Value) (xs : List Int) (F : FuncId) (caps : Array Value) (hE : Enters F) (want : List Nat → Bool) (k : Nat) (wC : World) (hf : WantP F caps want k xs.length wC) (hk : 1 ≤ k ∧ k ≤ 8)
    (way : List Nat) (base : Nat) (v : Value) (w : World) (hb : Below wC.heap.size wC w) (ho : Own w base v (nI way)) (hl : way.length = k) (hx : ∀ x ∈ way, x < xs.length) :
    Calls Tryz.prog 44 #[.agg #[.int .i64 s, sl], v, .int .i64 k, .func (.func F) #[] caps] w (WayPost xs want k 0 way base v w) := by
  obtain ⟨g, c, rfl, hbg, hc, hkc, -, -⟩ := ho.at_ (n := k) (by rw [nI_len, hl]) hk.1
  have HO := Lib.hid ho
  have HF := Lib.hid hf
  have HB := Lib.hid hb
  have HX := Lib.hid hx
  have HL := Lib.hid hl
  clear ho hf hb hx hl
  have hE' : ∀ (args : Array Value) (W : World), (callFunc F args).run Tryz.prog W = .ok (.enter F args) W := hE
  have hD : Hid (dfs xs xs.length want 0 way = if want way = true then some way else none) := rfl
  unfold maxLen at hc
  go_enter Tryz.func44, Tryz.ntmps44
  go_wp2_with fail
  have HB0 := Lib.hid (below_alloc1 w (.cells #[.int .i64 s, sl] 25))
  generalize w.alloc (.cells #[.int .i64 s, sl] 25) = w0 at *
  go_wp2_with fail
  refine (HF.out way _ w0 HL.out HX.out (Below.then HB.out HB0.out) (HO.out.rd.below HB0.out)).mono ?_
  rintro e w1 ⟨rfl, hb1⟩
  have HB1 := Lib.hid (Below.then HB0.out hb1)
  have HO1 := Lib.hid (HO.out.below HB1.out)
  clear hb1 HB0
  rcases q : want way with _ | _
  · rw [q] at hD
    go_wp2
    go_ret
    exact ⟨.slice none 0 0, rfl, fun L h => by (rw [hD.out] at h; cases h), fun _ => rfl, grown_below HB1.out _, HO1.out⟩
  · rw [q] at hD
    go_wp2_with fail
    refine (clone_any _ (nI way) w1 HO1.out.rd (by rw [nI_len, HL.out]; exact hk.1) (by rw [nI_len, HL.out]; omega)).mono ?_
    rintro e w2 ⟨v2, rfl, ho2, hb2⟩
    obtain ⟨g2, c2, rfl, -, -, -, -, -⟩ := ho2.at_ (n := k) (by rw [nI_len, HL.out]) hk.1
    have HO2 := Lib.hid (ho2.mono HB1.out.size)
    have HB2 := Lib.hid (Below.then HB1.out hb2)
    have HO3 := Lib.hid (HO.out.below HB2.out)
    clear ho2 hb2
    go_wp2
    go_ret
    refine ⟨.slice (some ⟨g2, 0, none⟩) k c2, rfl, fun L h => ?_, fun h => ?_, grown_below HB2.out _, HO3.out⟩
    · rw [hD.out] at h
      injection h with h
      subst h
      exact ⟨⟨_, _, rfl⟩, HO2.out⟩
    · rw [hD.out] at h; cases h
set_option maxHeartbeats 4000000 in
theorem wayOn_any (s : Int) (sl : Value) (xs : List Int) (hp : tourP s xs) (F : FuncId) (caps : Array Value) (hE : Enters F) (want : List Nat → Bool) (k : Nat) (wC : World) (hR : Rd wC sl xs) (hf : WantP F caps want k xs.length wC) (hk : 1 ≤ k ∧ k ≤ 8) (m : Nat) :
    ∀ (way : List Nat) (base : Nat) (v : Value) (w : World), Below wC.heap.size wC w → wC.heap.size ≤ base → base ≤ w.heap.size → Own w base v (nI way) → 0 < way.length → way.length + m = k → (∀ x ∈ way, x < xs.length) →
    Calls Tryz.prog 44 #[.agg #[.int .i64 s, sl], v, .int .i64 k, .func (.func F) #[] caps] w (WayPost xs want k m way base v w) := by
  induction m with
  | zero =>
    intro way base v w hb _ _ ho h0 hl hx
    exact wayOn_zero s sl xs F caps hE want k wC hf hk way base v w hb ho hl hx
  | succ m ih =>
    intro way base v w hb hbC hbw ho h0 hl hx
    have IH := Lib.hid ih
    clear ih
    obtain ⟨q, hpl⟩ : ∃ q, way.length = q := ⟨_, rfl⟩
    obtain ⟨p, hpq⟩ : ∃ p, q = p + 1 := ⟨q - 1, by omega⟩
    have hpq1 : p < q := by omega
    obtain ⟨g, c, rfl, hbg, hc, hkc, hcell, -⟩ := ho.at_ (n := q) (by rw [nI_len, hpl]) (by omega)
    have hlastc := hcell p (by omega)
    rw [nI_getD (by omega)] at hlastc
    have hgw := (ho.lt g rfl).2
    obtain ⟨gt, off, ct, rfl, hmt, hgt, hxt⟩ := tour_cells hR hp
    have hlt : way.getD p 0 < xs.length := hx _ (by rw [getD_nat (by omega)]; exact List.getElem_mem _)
    have hwin := (hb.cell (p := ⟨gt, off + way.getD p 0, none⟩) hgt).trans (hxt _ hlt)
    have hgtw : gt < w.heap.size := Nat.lt_of_lt_of_le hgt hb.size
    have hW := (tour_wins hp hlt).2.1
    have hs := hp.1
    have hsl := hp.2.1
    have HXT := Lib.hid hxt
    have HO := Lib.hid ho
    have HB := Lib.hid hb
    have HX := Lib.hid hx
    have HL := Lib.hid hl
    have HP := Lib.hid hpl
    have hD : Hid (dfs xs xs.length want (m + 1) way = (cand xs xs.length way).findSome? fun b => dfs xs xs.length want m (way ++ [b])) := rfl
    have hC : Hid (cand xs xs.length way = memN (less (winsN xs (way.getD p 0)) (setW way)) xs.length) := by
      unfold Hid cand lastN; rw [memN_lessW, hpl, hpq]; rfl
    have HR := Lib.hid hR
    have hWw := setW_lt hx
    clear ho hb hx hcell hxt hp hR
    unfold maxLen at hc hmt
    have hpk : q < k := by omega
    generalize hn : xs.length = n at *
    obtain rfl : s = n := by omega
    rw [show ((n : Int)).toNat = n from rfl] at hW
    have hn8 : n ≤ 8 := by omega
    have hp8 := pow_le hn8
    generalize hlw : way.getD p 0 = last at *
    have hand := i64_andNot_nat (winsN xs last) (setW way) (by omega) (by omega)
    have hSW : less (winsN xs last) (setW way) < 2 ^ n := less_lt hW
    have hidx : IntKind.i64.wrap ((q : Int) - 1) = p := by rw [show (q : Int) - 1 = p by omega]; rw [IntKind.wrap_i64]; omega
    have i1 : (0 : Int) ≤ p := by omega
    have i2 : (p : Int) < q := by omega
    have i3 : (0 : Int) ≤ last := by omega
    have i4 : (last : Int) < n := by omega
    clear hpq
    have HN := Lib.hid hn
    have hq : (q == k) = false := by simp; omega
    clear hn hl hpl
    go_enter Tryz.func44, Tryz.ntmps44
    go_wp2_with fail
    have b0 := below_alloc1 w (.cells #[.int .i64 n, .slice (some ⟨gt, off, none⟩) n ct] 25)
    have x0 := TBox.new w n (.slice (some ⟨gt, off, none⟩) n ct) 25
    generalize w.alloc (.cells #[.int .i64 n, .slice (some ⟨gt, off, none⟩) n ct] 25) = w0 at *
    have HX0 := Lib.hid x0
    have HB0 := Lib.hid b0
    clear x0 b0
    have y0_0 := HX0.out.1
    have y1_0 := HX0.out.2
    have hlast0 := (HB0.out.cell (p := ⟨g, p, none⟩) hgw).trans hlastc
    have hwin0 := (HB0.out.cell (p := ⟨gt, off + last, none⟩) hgtw).trans hwin
    have hsz0 := HB0.out.size
    have HRD := Lib.hid (show Rd w0.drew (.slice (some ⟨g, 0, none⟩) q c) (nI way) from (HO.out.below HB0.out).rd)
    have HDX := Lib.hid (show TBox w0.drew w.heap.size n (.slice (some ⟨gt, off, none⟩) n ct) from HX0.out)
    have HDB := Lib.hid (show Below w.heap.size w w0.drew from ⟨HB0.out.os, HB0.out.tape, HB0.out.output, HB0.out.size, HB0.out.block⟩)
    have hlastd : w0.drew.cell? ⟨g, p, none⟩ = some (.int .i64 (last : Nat)) := hlast0
    have hwind : w0.drew.cell? ⟨gt, off + last, none⟩ = some (.int .i64 (winsN xs last : Nat)) := hwin0
    have hszd : w.heap.size ≤ w0.drew.heap.size := hsz0
    have HX8 := Lib.hid (fun x hx => show x < 8 from by have := HX.out x hx; omega)
    clear hlastc hwin
    go_wp2_with fail
    go_region_held3 (fun W => W.cell? ⟨w.heap.size, 1, none⟩ = some (.slice (some ⟨gt, off, none⟩) n ct) ∧ W.cell? ⟨g, p, none⟩ = some (.int .i64 (last : Nat)) ∧ W.cell? ⟨gt, off + last, none⟩ = some (.int .i64 (winsN xs last : Nat)))
      (first | exact ⟨y1_0, hlast0, hwin0⟩ | exact ⟨y1_2, hlast2, hwin2⟩)
      (first
        | (go_at_call 79; refine (isetOf_any _ way w0.drew HRD.out HX8.out).mono ?_; rintro e wz ⟨rfl, rfl⟩)
        | (go_at_call 41; refine (membersOf_any (less (winsN xs last) (setW way)) n w0.drew hSW (by omega)).mono ?_; rintro e w2 ⟨v2, rfl, ho2, hb2⟩; have HB2 := Lib.hid (Below.then HDB.out hb2); have HO2 := Lib.hid (ho2.mono HDB.out.size); have hlast2 := (hb2.cell (p := ⟨g, p, none⟩) (Nat.lt_of_lt_of_le hgw hszd)).trans hlastd; have hwin2 := (hb2.cell (p := ⟨gt, off + last, none⟩) (Nat.lt_of_lt_of_le hgtw hszd)).trans hwind; have HX2 := Lib.hid (HDX.out.below hb2); have y1_2 := HX2.out.2; obtain ⟨A2, d2, rfl, hd1, hd2, hl2⟩ := memL_cells ho2; clear hb2 ho2))
    have qT : ∀ (w : World) (a : Option Addr) (n c n' c' : Nat), (binOp .neq 23 (.slice a n c) (.slice none n' c')).run Tryz.prog w = .ok (.bool (!a.isNone)) w := fun w a n c n' c' => run_neq_slice_nil w _ _ a n c n' c' Tryz.underlying23
    unfold maxLen at hd1
    have HLC := Lib.hid hl2
    have HBX := Lib.hid (fun (g2 off2 : Nat) (h : A2 = some ⟨g2, off2, none⟩) => (HO2.out.lt g2 (by rw [h]; rfl)).1)
    have HLT := Lib.hid (fun b (h : b ∈ memN (less (winsN xs last) (setW way)) n) => (memN_at' h))
    have HC2 : Hid (cand xs n way = memN (less (winsN xs last) (setW way)) n) := hC
    have hmn := memN_len (less (winsN xs last) (setW way)) n
    have HDF : Hid (dfs xs n want (m + 1) way = (cand xs n way).findSome? fun b => dfs xs n want m (way ++ [b])) := hD
    clear hl2 hC hD hlast2 hwin2 hlast0 hwin0 hlastd hwind y1_2 y0_0 y1_0
    generalize memN (less (winsN xs last) (setW way)) n = LL at *
    generalize hmm : LL.length = mm at *
    have HMM := Lib.hid hmm
    clear hmm hand hSW
    have HO2w : Hid (Own w2 base (.slice (some ⟨g, 0, none⟩) q c) (nI way)) := HO.out.below HB2.out
    have HCL := Lib.hid (below_of_grown HB.out (grown_below HB2.out (some g)) (fun x h => by injection h with h; omega))
    have hsz2 := HB2.out.size
    clear HB0 HX0 HRD HDX HDB hszd HR HXT
    go_wp2
    go_loopw [36] (fun i wr => ∃ j : Nat, j ≤ mm ∧ i = .int .i64 j ∧ Hid (∀ a, a < j → dfs xs n want m (way ++ [LL.getD a 0]) = none) ∧ Hid (w2.grownBy wr (some g)) ∧ Hid (Own wr base (.slice (some ⟨g, 0, none⟩) q c) (nI way))) (fun i _ => mm - (intOf i).toNat)
    case atStart => exact ⟨0, by omega, rfl, fun a ha => absurd ha (by omega), World.grownBy.refl _ _, HO2w.out⟩
    case round =>
      obtain ⟨wo, rfl⟩ : ∃ x, x = wr := ⟨_, rfl⟩
      obtain ⟨j, hj, rfl, HDN, HG, HOW⟩ := hrel
      by_cases hjm : j < mm
      · have hjl : j < LL.length := by rw [HMM.out]; exact hjm
        have hb := HLT.out (LL.getD j 0) (by rw [getD_nat hjl]; exact List.getElem_mem _)
        have hnw : LL.getD j 0 < n ∧ ∀ x ∈ way ++ [LL.getD j 0], x < n := ⟨hb, fun x hx => by
          rw [List.mem_append, List.mem_singleton] at hx
          rcases hx with hx | rfl
          · exact HX.out x hx
          · exact hb⟩
        have HNW := Lib.hid hnw.2
        obtain ⟨g2, off2, rfl, hg2w, hcl2⟩ := HLC.out (by omega)
        have hbg2 := HBX.out g2 off2 rfl
        have hcj := hcl2 j hjm
        have hne2 : some g2 ≠ some g := by intro h; injection h with h; omega
        have hcjo := (World.cell?_of_block (a := ⟨g2, off2 + j, none⟩) (HG.out.block g2 hg2w hne2)).trans hcj
        have HXo := Lib.hid (HX2.out.kept HG.out (by intro h; injection h with h; omega))
        have y0_0 := HXo.out.1
        have y1_0 := HXo.out.2
        have hszo := HG.out.size
        have HDj := Lib.hid (show ∀ F : Nat → Option (List Nat), F (LL.getD j 0) = F (LL.getD j 0) from fun _ => rfl)
        clear hcj hcl2 hnw
        obtain ⟨b, hbe⟩ : ∃ b, LL.getD j 0 = b := ⟨_, rfl⟩
        rw [hbe] at hb HNW hcjo
        have HBE := Lib.hid hbe
        clear hbe HDj
        have HXa := Lib.hid ((show TBox wo.drew w.heap.size n (.slice (some ⟨gt, off, none⟩) n ct) from HXo.out).below (below_alloc1 wo.drew (.cells #[.int .i64 (b : Nat)] 3)))
        have HOa := Lib.hid ((show Own wo.drew base (.slice (some ⟨g, 0, none⟩) q c) (nI way) from HOW.out).below (below_alloc1 wo.drew (.cells #[.int .i64 (b : Nat)] 3)))
        have hnew : (wo.drew.alloc (.cells #[.int .i64 (b : Nat)] 3)).cell? ⟨wo.drew.heap.size, 0, none⟩ = some (.int .i64 (b : Nat)) := cell_new1 wo.drew _ _
        have HNEW : Hid ((wo.drew.alloc (.cells #[.int .i64 (b : Nat)] 3)).cell? ⟨wo.heap.size, 0, none⟩ = some (.int .i64 (b : Nat))) := hnew
        clear hnew
        have y0_a := HXa.out.1
        have y1_a := HXa.out.2
        have y0_d : wo.drew.cell? ⟨w.heap.size, 0, none⟩ = some (.int .i64 n) := y0_0
        have y1_d : wo.drew.cell? ⟨w.heap.size, 1, none⟩ = some (.slice (some ⟨gt, off, none⟩) n ct) := y1_0
        have HQN : Hid ((nI way).length = q) := by unfold Hid; rw [nI_len]; exact HP.out
        have hda : w.heap.size ≤ (wo.drew.alloc (.cells #[.int .i64 (b : Nat)] 3)).heap.size := by simp; omega
        have hbase5 : base ≤ (wo.drew.alloc (.cells #[.int .i64 (b : Nat)] 3)).heap.size := Nat.le_trans hbw hda
        have HLA := Lib.hid (World.block_lt_of_cell? _ _ HXa.out.1)
        have HGN : Hid (w.heap.size ≠ g) := by unfold Hid; omega
        have HNEG : Hid (some w.heap.size ≠ (Value.slice (some ⟨g, 0, none⟩) q c).ownBlock) := by intro h; injection h with h; have h : w.heap.size = g := h; omega
        have HGC := Lib.hid (fun x (h : some g = some x) => show wC.heap.size ≤ x from by injection h with h; omega)
        have HL2 : Hid (0 < (way ++ [b]).length ∧ (way ++ [b]).length + m = k) := by have := HL.out; have := HP.out; unfold Hid; rw [List.length_append, List.length_singleton]; omega
        go_wp2_with fail
        go_region_held3 (fun W => W.cell? ⟨w.heap.size, 0, none⟩ = some (.int .i64 n) ∧ W.cell? ⟨w.heap.size, 1, none⟩ = some (.slice (some ⟨gt, off, none⟩) n ct))
          (first | exact ⟨y0_0, y1_0⟩ | exact ⟨y0_d, y1_d⟩ | exact ⟨y0_a, y1_a⟩ | exact ⟨y0_5, y1_5⟩ | exact ⟨y0_6, y1_6⟩)
          (first
            | (go_at_call 44; refine (IH.out (way ++ [b]) base _ w5 HB5.out hbC hbw5 HO5.out HL2.out.1 HL2.out.2 HNW.out).mono ?_; rintro e w6 ⟨v6, rfl, hs6, hn6, hg6, ho6⟩; have HX6 := Lib.hid (HX5.out.kept hg6 HNE5.out); have y0_6 := HX6.out.1; have y1_6 := HX6.out.2; have HS6 := Lib.hid hs6; have HN6 := Lib.hid hn6; have HG6 := Lib.hid hg6; have HO6 := Lib.hid ho6; clear hs6 hn6 hg6 ho6)
            | (refine step_append1k (wo.drew.alloc (.cells #[.int .i64 (b : Nat)] 3)) rfl (.tmp 41) (.tmp 43) rfl base (.slice (some ⟨g, 0, none⟩) q c) (nI way) q HQN.out (b : Int) wo.heap.size (by simp [Act.eval]) HOa.out (by simp [Act.eval]) HNEW.out (by omega) hbase5 ?_; intro g5 c5 w5 ho5 hk5 hg5 hat5; have HX5 := Lib.hid (HXa.out.kept hg5 HNEG.out); have y0_5 := HX5.out.1; have y1_5 := HX5.out.2; have HO5 := Lib.hid (show Own w5 base (.slice (some ⟨g5, 0, none⟩) (q + 1) c5) (nI (way ++ [b])) from by rw [nI_snoc]; exact ho5); have HK5 := Lib.hid hk5; have HG5 := Lib.hid (HG.out.trans (let z := grown_of_alloc hg5; (⟨z.os, z.tape, z.output, z.size, z.block⟩ : wo.grownBy w5 (some g)))); have hbw5 : base ≤ w5.heap.size := Nat.le_trans hbase5 hg5.size; have HB5 := Lib.hid (below_of_grown HCL.out HG5.out HGC.out); have HNE5 : Hid (some w.heap.size ≠ (Value.slice (some ⟨g5, 0, none⟩) (q + 1) c5).ownBlock) := ne5 HLA.out HGN.out hat5; have HAT5 := Lib.hid hat5; clear ho5 hk5 hg5 hat5))
        have HG7 := Lib.hid (grown_new HG5.out HG6.out (fun x hx => by
          have hx : g5 = x := by injection hx
          rcases HAT5.out with e | e
          · injection e with e1 _ _
            injection e1 with e1
            injection e1 with e1 _ _
            exact .inr (by rw [← hx, ← e1])
          · refine .inl ?_
            have := HG.out.size
            have h5 : (wo.drew.alloc (.cells #[.int .i64 (b : Nat)] 3)).heap.size = wo.heap.size + 1 := by simp
            omega))
        have HO7 : Hid (Own w6 base (.slice (some ⟨g, 0, none⟩) q c) (nI way)) := by
          rcases HAT5.out with e | e
          · have h6 := HO6.out
            rw [nI_snoc] at h6
            injection e with e1 _ e3
            injection e1 with e1
            injection e1 with e1 _ _
            subst e1 e3
            exact own_prefix HQN.out h6
          · exact HK5.out.kept HG6.out (.inr (by
              intro h
              injection h with h
              have h : g = g5 := h
              have h5 : (wo.drew.alloc (.cells #[.int .i64 (b : Nat)] 3)).heap.size = wo.heap.size + 1 := by simp
              omega))
        have HW5 : Hid (w.heap.size ≤ w5.heap.size) := Nat.le_trans hsz2 HG5.out.size
        have HGR := Lib.hid ((grown_below HB2.out (some g)).trans HG7.out)
        clear HG6 HG5 HK5 HO6 HX5 HX6 HB5 HAT5 HXa HOa HNEW HNEG HNE5 y0_0 y1_0 y0_d y1_d y0_a y1_a y0_5 y1_5 y0_6 y1_6
        rcases hd : dfs xs n want m (way ++ [b]) with _ | L
        · have hv := HN6.out (by rw [HN.out]; exact hd)
          subst hv
          have HHD := Lib.hid hd
          clear hd
          go_wp2
          go_roundw
          case rel =>
            refine ⟨j + 1, by omega, by go_num, fun a ha => ?_, HG7.out, HO7.out⟩
            by_cases haj : a < j
            · exact HDN.out a haj
            · obtain rfl : a = j := by omega
              rw [HBE.out]; exact HHD.out
          case measure => simp [intOf]; omega
        · obtain ⟨⟨g6, c6, rfl⟩, ho⟩ := HS6.out L (by rw [HN.out]; exact hd)
          have HR6 : Hid (dfs xs n want (m + 1) way = some L) := by
            unfold Hid
            rw [HDF.out, HC2.out]
            exact fs_hit hjl HDN.out (by rw [HBE.out]; exact hd)
          have HOL := Lib.hid (ho.mono HW5.out)
          clear hd ho
          go_wp2
          go_ret
          unfold WayPost
          rw [HN.out]
          refine ⟨.slice (some ⟨g6, 0, none⟩) k c6, rfl, fun L' h => ?_, fun h => ?_, HGR.out, HO7.out⟩
          · rw [HR6.out] at h
            injection h with h
            subst h
            exact ⟨⟨_, _, rfl⟩, HOL.out⟩
          · rw [HR6.out] at h; cases h
      · obtain rfl : mm = j := by omega
        have HR6 : Hid (dfs xs n want (m + 1) way = none) := by
          unfold Hid
          rw [HDF.out, HC2.out]
          exact fs_miss (by rw [HMM.out]; exact HDN.out)
        have HGR := Lib.hid ((grown_below HB2.out (some g)).trans HG.out)
        go_wp2
        go_ret
        unfold WayPost
        rw [HN.out]
        exact ⟨.slice none 0 0, rfl, fun L' h => by (rw [HR6.out] at h; cases h), fun _ => rfl, HGR.out, HOW.out⟩
end Go.Proofs.YtbkiedhaacapbaaGreat

