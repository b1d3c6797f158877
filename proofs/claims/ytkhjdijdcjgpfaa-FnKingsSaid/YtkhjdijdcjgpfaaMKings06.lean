/- Texts put together: WayOn, BkW, RngF. -/
import Derived.Test.YtkhjdijdcjgpfaaMKings04
import Derived.Test.YtkhjdijdcjgpfaaMKings01
import Derived.Test.YtkhjdijdcjgpfaaMKings05
import Derived.Lib.SliceRun
import Derived.RangeFuncNested
import Derived.RangeFuncBound
import Derived.RangeFuncCalls
import Derived.RangeFuncLeaves
import Derived.OwnWalkIn
import Derived.TacticsInMore
import Derived.LoopNIn
import Derived.LoopIn
namespace Go.Proofs.Ytkhjdijdcjgpfaa
open Go.RowKit Go.Sort
set_option maxRecDepth 100000
theorem run_neq_slice_nil {P : Program} (w : World) (t e : TypeId) (a : Option Addr) (n c n' c' : Nat) (h : P.underlying t = some (.slice e)) :
    (binOp .neq t (.slice a n c) (.slice none n' c')).run P w = .ok (.bool (!a.isNone)) w := by
  simp only [binOp]
  simp [Op.equal, Op.maxDepth, Lib.run_equalIn_slice_nil w 9999 t e a n c n' c' h]
theorem grown_new {a b c : World} {row row' : Option Nat} (h : a.grownBy b row) (k : b.grownBy c row') (hn : ∀ g, row' = some g → a.heap.size ≤ g ∨ some g = row) : a.grownBy c row :=
  ⟨k.os.trans h.os, k.tape.trans h.tape, k.output.trans h.output, Nat.le_trans h.size k.size, fun i hi hne => (k.block i (Nat.lt_of_lt_of_le hi h.size) (fun e => by
    rcases hn i e.symm with h1 | h1
    · omega
    · exact hne h1)).trans (h.block i hi hne)⟩
theorem grown_below {a b : World} (h : Below a.heap.size a b) (row : Option Nat) : a.grownBy b row := ⟨h.os, h.tape, h.output, h.size, fun i hi _ => h.block i hi⟩
theorem below_of_grown {C a b : World} {row : Option Nat} (h : Below C.heap.size C a) (k : a.grownBy b row) (hr : ∀ g, row = some g → C.heap.size ≤ g) : Below C.heap.size C b := h.grown k h.size hr
theorem memN_at' {S n b : Nat} (h : b ∈ memN S n) : b < n := (mem_memN.1 h).1
theorem cell_new1 (w : World) (x : Value) (t : TypeId) : (w.alloc (.cells #[x] t)).cell? ⟨w.heap.size, 0, none⟩ = some x := by simp
theorem ne5 {W : World} {B g g5 q l c c5 : Nat} (hB : B < W.heap.size) (hg : B ≠ g) (hat : Value.slice (some ⟨g, 0, none⟩) q c = .slice (some ⟨g5, 0, none⟩) l c5 ∨ g5 = W.heap.size) : some B ≠ (Value.slice (some ⟨g5, 0, none⟩) (l + 1) c5).ownBlock := by
  intro h
  injection h with h
  have h : B = g5 := h
  rcases hat with e | e
  · injection e with e1 _ _
    injection e1 with e1
    injection e1 with e1 _ _
    omega
  · omega
def WantP (F : FuncId) (caps : Array Value) (want : List Nat → Bool) (k n : Nat) (wC : World) : Prop :=
  ∀ (way : List Nat) (v : Value) (W : World), way.length = k → (∀ x ∈ way, x < n) → Below wC.heap.size wC W → Rd W v (nI way) →
    Calls Try.prog F (#[v] ++ caps) W fun e w'' => e = .returned (.bool (want way)) ∧ Below W.heap.size W w''
def WayPost (xs : List Int) (want : List Nat → Bool) (k m : Nat) (way : List Nat) (base : Nat) (v : Value) (w : World) (e : Ending) (w' : World) : Prop :=
  ∃ v', e = .returned v' ∧ (∀ L, dfs xs xs.length want m way = some L → (∃ g c, v' = .slice (some ⟨g, 0, none⟩) k c) ∧ Own w' w.heap.size v' (nI L)) ∧ (dfs xs xs.length want m way = none → v' = .slice none 0 0) ∧
    w.grownBy w' v.ownBlock ∧ Own w' base v (nI way)
set_option maxHeartbeats 1000000 in
theorem wayOn_zero (s : Int) (sl : Value) (xs : List Int) (F : FuncId) (caps : Array Value) (hE : Enters F) (want : List Nat → Bool) (k : Nat) (wC : World) (hf : WantP F caps want k xs.length wC) (hk : 1 ≤ k ∧ k ≤ 8)
    (way : List Nat) (base : Nat) (v : Value) (w : World) (hb : Below wC.heap.size wC w) (ho : Own w base v (nI way)) (hl : way.length = k) (hx : ∀ x ∈ way, x < xs.length) :
    Calls Try.prog 83 #[.agg #[.int .i64 s, sl], v, .int .i64 k, .func (.func F) #[] caps] w (WayPost xs want k 0 way base v w) := by
  obtain ⟨g, c, rfl, hbg, hc, hkc, -, -⟩ := ho.at_ (n := k) (by rw [nI_len, hl]) hk.1
  have HO := Lib.hid ho
  have HF := Lib.hid hf
  have HB := Lib.hid hb
  have HX := Lib.hid hx
  have HL := Lib.hid hl
  clear ho hf hb hx hl
  have hE' : ∀ (args : Array Value) (W : World), (callFunc F args).run Try.prog W = .ok (.enter F args) W := hE
  have hD : Hid (dfs xs xs.length want 0 way = if want way = true then some way else none) := rfl
  unfold maxLen at hc
  go_enter Try.func83, Try.ntmps83
  go_wp2_with fail
  have HB0 := Lib.hid (below_alloc1 w (.cells #[.int .i64 s, sl] 25))
  generalize w.alloc (.cells #[.int .i64 s, sl] 25) = w0 at *
  go_wp2_with fail
  refine (HF.out way _ w0 HL.out HX.out (Below.then HB.out HB0.out) (HO.out.rd.below HB0.out)).mono ?_
  rintro e w1 ⟨rfl, hb1⟩
  have HB1 := Lib.hid (Below.then HB0.out hb1)
  have HO1 := Lib.hid (HO.out.below HB1.out)
  clear hb1 HB0
  rcases q : want way with _ | _
  · rw [q] at hD
    go_wp2
    go_ret
    exact ⟨.slice none 0 0, rfl, fun L h => by (rw [hD.out] at h; cases h), fun _ => rfl, grown_below HB1.out _, HO1.out⟩
  · rw [q] at hD
    go_wp2_with fail
    refine (clone_any _ (nI way) w1 HO1.out.rd (by rw [nI_len, HL.out]; exact hk.1) (by rw [nI_len, HL.out]; omega)).mono ?_
    rintro e w2 ⟨v2, rfl, ho2, hb2⟩
    obtain ⟨g2, c2, rfl, -, -, -, -, -⟩ := ho2.at_ (n := k) (by rw [nI_len, HL.out]) hk.1
    have HO2 := Lib.hid (ho2.mono HB1.out.size)
    have HB2 := Lib.hid (Below.then HB1.out hb2)
    have HO3 := Lib.hid (HO.out.below HB2.out)
    clear ho2 hb2
    go_wp2
    go_ret
    refine ⟨.slice (some ⟨g2, 0, none⟩) k c2, rfl, fun L h => ?_, fun h => ?_, grown_below HB2.out _, HO3.out⟩
    · rw [hD.out] at h
      injection h with h
      subst h
      exact ⟨⟨_, _, rfl⟩, HO2.out⟩
    · rw [hD.out] at h; cases h
set_option maxHeartbeats 4000000 in
theorem wayOn_any (s : Int) (sl : Value) (xs : List Int) (hp : tourP s xs) (F : FuncId) (caps : Array Value) (hE : Enters F) (want : List Nat → Bool) (k : Nat) (wC : World) (hR : Rd wC sl xs) (hf : WantP F caps want k xs.length wC) (hk : 1 ≤ k ∧ k ≤ 8) (m : Nat) :
    ∀ (way : List Nat) (base : Nat) (v : Value) (w : World), Below wC.heap.size wC w → wC.heap.size ≤ base → base ≤ w.heap.size → Own w base v (nI way) → 0 < way.length → way.length + m = k → (∀ x ∈ way, x < xs.length) →
    Calls Try.prog 83 #[.agg #[.int .i64 s, sl], v, .int .i64 k, .func (.func F) #[] caps] w (WayPost xs want k m way base v w) := by
  induction m with
  | zero =>
    intro way base v w hb _ _ ho h0 hl hx
    exact wayOn_zero s sl xs F caps hE want k wC hf hk way base v w hb ho hl hx
  | succ m ih =>
    intro way base v w hb hbC hbw ho h0 hl hx
    have IH := Lib.hid ih
    clear ih
    obtain ⟨q, hpl⟩ : ∃ q, way.length = q := ⟨_, rfl⟩
    obtain ⟨p, hpq⟩ : ∃ p, q = p + 1 := ⟨q - 1, by omega⟩
    have hpq1 : p < q := by omega
    obtain ⟨g, c, rfl, hbg, hc, hkc, hcell, -⟩ := ho.at_ (n := q) (by rw [nI_len, hpl]) (by omega)
    have hlastc := hcell p (by omega)
    rw [nI_getD (by omega)] at hlastc
    have hgw := (ho.lt g rfl).2
    obtain ⟨gt, off, ct, rfl, hmt, hgt, hxt⟩ := tour_cells hR hp
    have hlt : way.getD p 0 < xs.length := hx _ (by rw [getD_nat (by omega)]; exact List.getElem_mem _)
    have hwin := (hb.cell (p := ⟨gt, off + way.getD p 0, none⟩) hgt).trans (hxt _ hlt)
    have hgtw : gt < w.heap.size := Nat.lt_of_lt_of_le hgt hb.size
    have hW := (tour_wins hp hlt).2.1
    have hs := hp.1
    have hsl := hp.2.1
    have HXT := Lib.hid hxt
    have HO := Lib.hid ho
    have HB := Lib.hid hb
    have HX := Lib.hid hx
    have HL := Lib.hid hl
    have HP := Lib.hid hpl
    have hD : Hid (dfs xs xs.length want (m + 1) way = (cand xs xs.length way).findSome? fun b => dfs xs xs.length want m (way ++ [b])) := rfl
    have hC : Hid (cand xs xs.length way = memN (less (winsN xs (way.getD p 0)) (setW way)) xs.length) := by
      unfold Hid cand lastN; rw [memN_lessW, hpl, hpq]; rfl
    have HR := Lib.hid hR
    have hWw := setW_lt hx
    clear ho hb hx hcell hxt hp hR
    unfold maxLen at hc hmt
    have hpk : q < k := by omega
    generalize hn : xs.length = n at *
    obtain rfl : s = n := by omega
    rw [show ((n : Int)).toNat = n from rfl] at hW
    have hn8 : n ≤ 8 := by omega
    have hp8 := pow_le hn8
    generalize hlw : way.getD p 0 = last at *
    have hand := i64_andNot_nat (winsN xs last) (setW way) (by omega) (by omega)
    have hSW : less (winsN xs last) (setW way) < 2 ^ n := less_lt hW
    have hidx : IntKind.i64.wrap ((q : Int) - 1) = p := by rw [show (q : Int) - 1 = p by omega]; rw [IntKind.wrap_i64]; omega
    have i1 : (0 : Int) ≤ p := by omega
    have i2 : (p : Int) < q := by omega
    have i3 : (0 : Int) ≤ last := by omega
    have i4 : (last : Int) < n := by omega
    clear hpq
    have HN := Lib.hid hn
    have hq : (q == k) = false := by simp; omega
    clear hn hl hpl
    go_enter Try.func83, Try.ntmps83
    go_wp2_with fail
    have b0 := below_alloc1 w (.cells #[.int .i64 n, .slice (some ⟨gt, off, none⟩) n ct] 25)
    have x0 := TBox.new w n (.slice (some ⟨gt, off, none⟩) n ct) 25
    generalize w.alloc (.cells #[.int .i64 n, .slice (some ⟨gt, off, none⟩) n ct] 25) = w0 at *
    have HX0 := Lib.hid x0
    have HB0 := Lib.hid b0
    clear x0 b0
    have y0_0 := HX0.out.1
    have y1_0 := HX0.out.2
    have hlast0 := (HB0.out.cell (p := ⟨g, p, none⟩) hgw).trans hlastc
    have hwin0 := (HB0.out.cell (p := ⟨gt, off + last, none⟩) hgtw).trans hwin
    have hsz0 := HB0.out.size
    have HRD := Lib.hid (show Rd w0.drew (.slice (some ⟨g, 0, none⟩) q c) (nI way) from (HO.out.below HB0.out).rd)
    have HDX := Lib.hid (show TBox w0.drew w.heap.size n (.slice (some ⟨gt, off, none⟩) n ct) from HX0.out)
    have HDB := Lib.hid (show Below w.heap.size w w0.drew from ⟨HB0.out.os, HB0.out.tape, HB0.out.output, HB0.out.size, HB0.out.block⟩)
    have hlastd : w0.drew.cell? ⟨g, p, none⟩ = some (.int .i64 (last : Nat)) := hlast0
    have hwind : w0.drew.cell? ⟨gt, off + last, none⟩ = some (.int .i64 (winsN xs last : Nat)) := hwin0
    have hszd : w.heap.size ≤ w0.drew.heap.size := hsz0
    have HX8 := Lib.hid (fun x hx => show x < 8 from by have := HX.out x hx; omega)
    clear hlastc hwin
    go_wp2_with fail
    go_region_held3 (fun W => W.cell? ⟨w.heap.size, 1, none⟩ = some (.slice (some ⟨gt, off, none⟩) n ct) ∧ W.cell? ⟨g, p, none⟩ = some (.int .i64 (last : Nat)) ∧ W.cell? ⟨gt, off + last, none⟩ = some (.int .i64 (winsN xs last : Nat)))
      (first | exact ⟨y1_0, hlast0, hwin0⟩ | exact ⟨y1_2, hlast2, hwin2⟩)
      (first
        | (go_at_call 106; refine (isetOf_any _ way w0.drew HRD.out HX8.out).mono ?_; rintro e wz ⟨rfl, rfl⟩)
        | (go_at_call 69; refine (membersOf_any (less (winsN xs last) (setW way)) n w0.drew hSW (by omega)).mono ?_; rintro e w2 ⟨v2, rfl, ho2, hb2⟩; have HB2 := Lib.hid (Below.then HDB.out hb2); have HO2 := Lib.hid (ho2.mono HDB.out.size); have hlast2 := (hb2.cell (p := ⟨g, p, none⟩) (Nat.lt_of_lt_of_le hgw hszd)).trans hlastd; have hwin2 := (hb2.cell (p := ⟨gt, off + last, none⟩) (Nat.lt_of_lt_of_le hgtw hszd)).trans hwind; have HX2 := Lib.hid (HDX.out.below hb2); have y1_2 := HX2.out.2; obtain ⟨A2, d2, rfl, hd1, hd2, hl2⟩ := memL_cells ho2; clear hb2 ho2))
    have qT : ∀ (w : World) (a : Option Addr) (n c n' c' : Nat), (binOp .neq 23 (.slice a n c) (.slice none n' c')).run Try.prog w = .ok (.bool (!a.isNone)) w := fun w a n c n' c' => run_neq_slice_nil w _ _ a n c n' c' Try.underlying23
    unfold maxLen at hd1
    have HLC := Lib.hid hl2
    have HBX := Lib.hid (fun (g2 off2 : Nat) (h : A2 = some ⟨g2, off2, none⟩) => (HO2.out.lt g2 (by rw [h]; rfl)).1)
    have HLT := Lib.hid (fun b (h : b ∈ memN (less (winsN xs last) (setW way)) n) => (memN_at' h))
    have HC2 : Hid (cand xs n way = memN (less (winsN xs last) (setW way)) n) := hC
    have hmn := memN_len (less (winsN xs last) (setW way)) n
    have HDF : Hid (dfs xs n want (m + 1) way = (cand xs n way).findSome? fun b => dfs xs n want m (way ++ [b])) := hD
    clear hl2 hC hD hlast2 hwin2 hlast0 hwin0 hlastd hwind y1_2 y0_0 y1_0
    generalize memN (less (winsN xs last) (setW way)) n = LL at *
    generalize hmm : LL.length = mm at *
    have HMM := Lib.hid hmm
    clear hmm hand hSW
    have HO2w : Hid (Own w2 base (.slice (some ⟨g, 0, none⟩) q c) (nI way)) := HO.out.below HB2.out
    have HCL := Lib.hid (below_of_grown HB.out (grown_below HB2.out (some g)) (fun x h => by injection h with h; omega))
    have hsz2 := HB2.out.size
    clear HB0 HX0 HRD HDX HDB hszd HR HXT
    go_wp2
    go_loopw [36] (fun i wr => ∃ j : Nat, j ≤ mm ∧ i = .int .i64 j ∧ Hid (∀ a, a < j → dfs xs n want m (way ++ [LL.getD a 0]) = none) ∧ Hid (w2.grownBy wr (some g)) ∧ Hid (Own wr base (.slice (some ⟨g, 0, none⟩) q c) (nI way))) (fun i _ => mm - (intOf i).toNat)
    case atStart => exact ⟨0, by omega, rfl, fun a ha => absurd ha (by omega), World.grownBy.refl _ _, HO2w.out⟩
    case round =>
      obtain ⟨wo, rfl⟩ : ∃ x, x = wr := ⟨_, rfl⟩
      obtain ⟨j, hj, rfl, HDN, HG, HOW⟩ := hrel
      by_cases hjm : j < mm
      · have hjl : j < LL.length := by rw [HMM.out]; exact hjm
        have hb := HLT.out (LL.getD j 0) (by rw [getD_nat hjl]; exact List.getElem_mem _)
        have hnw : LL.getD j 0 < n ∧ ∀ x ∈ way ++ [LL.getD j 0], x < n := ⟨hb, fun x hx => by
          rw [List.mem_append, List.mem_singleton] at hx
          rcases hx with hx | rfl
          · exact HX.out x hx
          · exact hb⟩
        have HNW := Lib.hid hnw.2
        obtain ⟨g2, off2, rfl, hg2w, hcl2⟩ := HLC.out (by omega)
        have hbg2 := HBX.out g2 off2 rfl
        have hcj := hcl2 j hjm
        have hne2 : some g2 ≠ some g := by intro h; injection h with h; omega
        have hcjo := (World.cell?_of_block (a := ⟨g2, off2 + j, none⟩) (HG.out.block g2 hg2w hne2)).trans hcj
        have HXo := Lib.hid (HX2.out.kept HG.out (by intro h; injection h with h; omega))
        have y0_0 := HXo.out.1
        have y1_0 := HXo.out.2
        have hszo := HG.out.size
        have HDj := Lib.hid (show ∀ F : Nat → Option (List Nat), F (LL.getD j 0) = F (LL.getD j 0) from fun _ => rfl)
        clear hcj hcl2 hnw
        obtain ⟨b, hbe⟩ : ∃ b, LL.getD j 0 = b := ⟨_, rfl⟩
        rw [hbe] at hb HNW hcjo
        have HBE := Lib.hid hbe
        clear hbe HDj
        have HXa := Lib.hid ((show TBox wo.drew w.heap.size n (.slice (some ⟨gt, off, none⟩) n ct) from HXo.out).below (below_alloc1 wo.drew (.cells #[.int .i64 (b : Nat)] 3)))
        have HOa := Lib.hid ((show Own wo.drew base (.slice (some ⟨g, 0, none⟩) q c) (nI way) from HOW.out).below (below_alloc1 wo.drew (.cells #[.int .i64 (b : Nat)] 3)))
        have hnew : (wo.drew.alloc (.cells #[.int .i64 (b : Nat)] 3)).cell? ⟨wo.drew.heap.size, 0, none⟩ = some (.int .i64 (b : Nat)) := cell_new1 wo.drew _ _
        have HNEW : Hid ((wo.drew.alloc (.cells #[.int .i64 (b : Nat)] 3)).cell? ⟨wo.heap.size, 0, none⟩ = some (.int .i64 (b : Nat))) := hnew
        clear hnew
        have y0_a := HXa.out.1
        have y1_a := HXa.out.2
        have y0_d : wo.drew.cell? ⟨w.heap.size, 0, none⟩ = some (.int .i64 n) := y0_0
        have y1_d : wo.drew.cell? ⟨w.heap.size, 1, none⟩ = some (.slice (some ⟨gt, off, none⟩) n ct) := y1_0
        have HQN : Hid ((nI way).length = q) := by unfold Hid; rw [nI_len]; exact HP.out
        have hda : w.heap.size ≤ (wo.drew.alloc (.cells #[.int .i64 (b : Nat)] 3)).heap.size := by simp; omega
        have hbase5 : base ≤ (wo.drew.alloc (.cells #[.int .i64 (b : Nat)] 3)).heap.size := Nat.le_trans hbw hda
        have HLA := Lib.hid (World.block_lt_of_cell? _ _ HXa.out.1)
        have HGN : Hid (w.heap.size ≠ g) := by unfold Hid; omega
        have HNEG : Hid (some w.heap.size ≠ (Value.slice (some ⟨g, 0, none⟩) q c).ownBlock) := by intro h; injection h with h; have h : w.heap.size = g := h; omega
        have HGC := Lib.hid (fun x (h : some g = some x) => show wC.heap.size ≤ x from by injection h with h; omega)
        have HL2 : Hid (0 < (way ++ [b]).length ∧ (way ++ [b]).length + m = k) := by have := HL.out; have := HP.out; unfold Hid; rw [List.length_append, List.length_singleton]; omega
        go_wp2_with fail
        go_region_held3 (fun W => W.cell? ⟨w.heap.size, 0, none⟩ = some (.int .i64 n) ∧ W.cell? ⟨w.heap.size, 1, none⟩ = some (.slice (some ⟨gt, off, none⟩) n ct))
          (first | exact ⟨y0_0, y1_0⟩ | exact ⟨y0_d, y1_d⟩ | exact ⟨y0_a, y1_a⟩ | exact ⟨y0_5, y1_5⟩ | exact ⟨y0_6, y1_6⟩)
          (first
            | (go_at_call 83; refine (IH.out (way ++ [b]) base _ w5 HB5.out hbC hbw5 HO5.out HL2.out.1 HL2.out.2 HNW.out).mono ?_; rintro e w6 ⟨v6, rfl, hs6, hn6, hg6, ho6⟩; have HX6 := Lib.hid (HX5.out.kept hg6 HNE5.out); have y0_6 := HX6.out.1; have y1_6 := HX6.out.2; have HS6 := Lib.hid hs6; have HN6 := Lib.hid hn6; have HG6 := Lib.hid hg6; have HO6 := Lib.hid ho6; clear hs6 hn6 hg6 ho6)
            | (refine step_append1k (wo.drew.alloc (.cells #[.int .i64 (b : Nat)] 3)) rfl (.tmp 41) (.tmp 43) rfl base (.slice (some ⟨g, 0, none⟩) q c) (nI way) q HQN.out (b : Int) wo.heap.size (by simp [Act.eval]) HOa.out (by simp [Act.eval]) HNEW.out (by omega) hbase5 ?_; intro g5 c5 w5 ho5 hk5 hg5 hat5; have HX5 := Lib.hid (HXa.out.kept hg5 HNEG.out); have y0_5 := HX5.out.1; have y1_5 := HX5.out.2; have HO5 := Lib.hid (show Own w5 base (.slice (some ⟨g5, 0, none⟩) (q + 1) c5) (nI (way ++ [b])) from by rw [nI_snoc]; exact ho5); have HK5 := Lib.hid hk5; have HG5 := Lib.hid (HG.out.trans (let z := grown_of_alloc hg5; (⟨z.os, z.tape, z.output, z.size, z.block⟩ : wo.grownBy w5 (some g)))); have hbw5 : base ≤ w5.heap.size := Nat.le_trans hbase5 hg5.size; have HB5 := Lib.hid (below_of_grown HCL.out HG5.out HGC.out); have HNE5 : Hid (some w.heap.size ≠ (Value.slice (some ⟨g5, 0, none⟩) (q + 1) c5).ownBlock) := ne5 HLA.out HGN.out hat5; have HAT5 := Lib.hid hat5; clear ho5 hk5 hg5 hat5))
        have HG7 := Lib.hid (grown_new HG5.out HG6.out (fun x hx => by
          have hx : g5 = x := by injection hx
          rcases HAT5.out with e | e
          · injection e with e1 _ _
            injection e1 with e1
            injection e1 with e1 _ _
            exact .inr (by rw [← hx, ← e1])
          · refine .inl ?_
            have := HG.out.size
            have h5 : (wo.drew.alloc (.cells #[.int .i64 (b : Nat)] 3)).heap.size = wo.heap.size + 1 := by simp
            omega))
        have HO7 : Hid (Own w6 base (.slice (some ⟨g, 0, none⟩) q c) (nI way)) := by
          rcases HAT5.out with e | e
          · have h6 := HO6.out
            rw [nI_snoc] at h6
            injection e with e1 _ e3
            injection e1 with e1
            injection e1 with e1 _ _
            subst e1 e3
            exact own_prefix HQN.out h6
          · exact HK5.out.kept HG6.out (.inr (by
              intro h
              injection h with h
              have h : g = g5 := h
              have h5 : (wo.drew.alloc (.cells #[.int .i64 (b : Nat)] 3)).heap.size = wo.heap.size + 1 := by simp
              omega))
        have HW5 : Hid (w.heap.size ≤ w5.heap.size) := Nat.le_trans hsz2 HG5.out.size
        have HGR := Lib.hid ((grown_below HB2.out (some g)).trans HG7.out)
        clear HG6 HG5 HK5 HO6 HX5 HX6 HB5 HAT5 HXa HOa HNEW HNEG HNE5 y0_0 y1_0 y0_d y1_d y0_a y1_a y0_5 y1_5 y0_6 y1_6
        rcases hd : dfs xs n want m (way ++ [b]) with _ | L
        · have hv := HN6.out (by rw [HN.out]; exact hd)
          subst hv
          have HHD := Lib.hid hd
          clear hd
          go_wp2
          go_roundw
          case rel =>
            refine ⟨j + 1, by omega, by go_num, fun a ha => ?_, HG7.out, HO7.out⟩
            by_cases haj : a < j
            · exact HDN.out a haj
            · obtain rfl : a = j := by omega
              rw [HBE.out]; exact HHD.out
          case measure => simp [intOf]; omega
        · obtain ⟨⟨g6, c6, rfl⟩, ho⟩ := HS6.out L (by rw [HN.out]; exact hd)
          have HR6 : Hid (dfs xs n want (m + 1) way = some L) := by
            unfold Hid
            rw [HDF.out, HC2.out]
            exact fs_hit hjl HDN.out (by rw [HBE.out]; exact hd)
          have HOL := Lib.hid (ho.mono HW5.out)
          clear hd ho
          go_wp2
          go_ret
          unfold WayPost
          rw [HN.out]
          refine ⟨.slice (some ⟨g6, 0, none⟩) k c6, rfl, fun L' h => ?_, fun h => ?_, HGR.out, HO7.out⟩
          · rw [HR6.out] at h
            injection h with h
            subst h
            exact ⟨⟨_, _, rfl⟩, HOL.out⟩
          · rw [HR6.out] at h; cases h
      · obtain rfl : mm = j := by omega
        have HR6 : Hid (dfs xs n want (m + 1) way = none) := by
          unfold Hid
          rw [HDF.out, HC2.out]
          exact fs_miss (by rw [HMM.out]; exact HDN.out)
        have HGR := Lib.hid ((grown_below HB2.out (some g)).trans HG.out)
        go_wp2
        go_ret
        unfold WayPost
        rw [HN.out]
        exact ⟨.slice none 0 0, rfl, fun L' h => by (rw [HR6.out] at h; cases h), fun _ => rfl, HGR.out, HOW.out⟩
end Go.Proofs.Ytkhjdijdcjgpfaa

namespace Go.Proofs.Ytkhjdijdcjgpfaa
open Go.RowKit Go.Sort
set_option maxRecDepth 100000
def bkP (S : Nat) (x : Int) : Bool := (x.toNat &&& S) == S
theorem bk_any {n : Nat} {xs : List Int} (hp : tourP n xs) (S : Nat) : xs.any (bkP S) = (List.range n).any fun a => decide (winsN xs a &&& S = S) := by
  have hln := tour_len hp
  rw [Bool.eq_iff_iff, List.any_eq_true, List.any_eq_true]
  constructor
  · rintro ⟨x, hx, h⟩
    obtain ⟨a, ha, rfl⟩ := List.getElem_of_mem hx
    refine ⟨a, List.mem_range.2 (by omega), ?_⟩
    have : winsN xs a = (xs[a]).toNat := by unfold winsN; simp [ha]
    rw [decide_eq_true_eq, this]
    exact beq_iff_eq.1 h
  · rintro ⟨a, ha, h⟩
    have ha' : a < xs.length := by have := List.mem_range.1 ha; omega
    refine ⟨xs[a], List.getElem_mem _, ?_⟩
    have : winsN xs a = (xs[a]).toNat := by unfold winsN; simp [ha']
    rw [decide_eq_true_eq, this] at h
    exact beq_iff_eq.2 h
theorem bkIn_take {xs : List Int} {S : Nat} {l : List Nat} {k o : Nat} (hk : k < l.length) : bkIn xs S (l.take (k + 1)) o = if less S (winsN xs (l.getD k 0)) = 2 ^ (l.getD k 0) then bkIn xs S (l.take k) o ||| 2 ^ (l.getD k 0) else bkIn xs S (l.take k) o := by
  rw [take_snocN' hk]
  unfold bkIn
  rw [List.foldl_append]
  rfl
theorem bkIn_lt {xs : List Int} {S n : Nat} : ∀ {l : List Nat} {o : Nat}, (∀ a ∈ l, a < n) → o < 2 ^ n → bkIn xs S l o < 2 ^ n := by
  intro l
  induction l with
  | nil => intro o _ h; exact h
  | cons a l ih =>
    intro o hl h
    refine ih (o := if less S (winsN xs a) = 2 ^ a then o ||| 2 ^ a else o) (fun b hb => hl b (by simp [hb])) ?_
    split
    · exact Nat.or_lt_two_pow h (Nat.pow_lt_pow_right (by decide) (hl a (by simp)))
    · exact h
theorem bkK_lt' {n : Nat} {xs : List Int} : ∀ k, k < 2 ^ n → bkK xs n k < 2 ^ n := by
  intro k
  induction k with
  | zero => intro h; exact h
  | succ k ih =>
    intro h
    simp only [bkK]
    split
    · exact bkIn_lt (fun a ha => bit_lt h (mem_memN.1 ha).2) (ih (by omega))
    · exact ih (by omega)
def cellM (v : Value) (w : World) : Nat := match v with
  | .pointer (some a) => (intOf ((w.cell? a).getD undef)).toNat
  | _ => 0
theorem cellM_at {w : World} {a : Addr} {k : Nat} (h : w.cell? a = some (.int .i64 k)) : cellM (.pointer (some a)) w = k := by
  simp [cellM, h, intOf]
set_option maxHeartbeats 1000000 in
theorem bk1_any (x S : Nat) (gs : Nat) (W : World) (hx : x < 256) (hS : S < 256) (c : W.cell? ⟨gs, 0, none⟩ = some (.int .i64 S)) :
    Calls Try.prog 68 #[.int .i64 x, .pointer (some ⟨gs, 0, none⟩)] W fun e w' => e = .returned (.bool (bkP S x)) ∧ Below W.heap.size W w' := by
  have hand := i64_and_nat x S (by omega) (by omega)
  have hF : Hid (bkP S x = ((x &&& S) == S)) := by unfold Hid bkP; first | rfl | (rw [Int.toNat_natCast])
  have hb : (((x &&& S : Nat) : Int) == (S : Int)) = ((x &&& S) == S) := by rw [Bool.eq_iff_iff, beq_iff_eq, beq_iff_eq]; omega
  generalize x &&& S = y at *
  go_enter Try.func68, Try.ntmps68
  go_wp2
  go_ret
  exact ⟨ret_bool (by rw [hF.out]), Below.refl _ _⟩
theorem enters_bk1 : Enters 68 := fun _ _ => by kernel_rfl
set_option maxHeartbeats 4000000 in
theorem cBanks (n : Nat) (sl : Value) (xs : List Int) (w : World) (h : Rd w sl xs) (hp : tourP n xs) :
    Calls Try.prog 11 #[.agg #[.int .i64 n, sl]] w fun e w' => e = .returned (.int .i64 (bkK xs n (2 ^ n - 1) : Nat)) ∧ Below w.heap.size w w' := by
  have HR := Lib.hid h
  have HP := Lib.hid hp
  have q0 : tourB n xs = true := tourB_true.2 hp
  have hln := tour_len hp
  have hs := hp.1
  have h8 : n ≤ 8 := by omega
  have h256 : 2 ^ n ≤ 256 := Nat.pow_le_pow_right (n := 2) (j := 8) (by decide) h8
  have hsh := shl_nat n (by omega)
  obtain ⟨Q, hQ⟩ : ∃ Q, Q = 2 ^ n := ⟨_, rfl⟩
  have HQ := Lib.hid hQ
  have hQ1 : 1 ≤ Q := by rw [hQ]; exact Nat.one_le_two_pow
  rw [← hQ] at h256 hsh ⊢
  have HLT : Hid (∀ k, k < Q → bkK xs n k < Q) := Lib.hid (by rw [hQ]; exact bkK_lt')
  have HANY := Lib.hid (bk_any hp)
  have HW := Lib.hid (fun a (ha : a < n) => (tour_wins hp (a := a) (by rw [hln]; exact ha)))
  obtain ⟨g, off, c, rfl, hm, hg, hx⟩ := tour_cells h hp
  unfold maxLen at hm
  rw [hln] at HR hx ⊢
  have HXX := Lib.hid hx
  clear hp hln hQ hx h
  go_enter Try.func11, Try.ntmps11
  go_wp2_with fail
  have b0 := below_alloc1 w (.cells #[.int .i64 n, .slice (some ⟨g, off, none⟩) n c] 25)
  have x0 := TBox.new w n (.slice (some ⟨g, off, none⟩) n c) 25
  generalize w.alloc (.cells #[.int .i64 n, .slice (some ⟨g, off, none⟩) n c] 25) = w0 at *
  have HX0 := Lib.hid x0
  have HB0 := Lib.hid b0
  clear x0 b0
  have y0_0 := HX0.out.1
  have y1_0 := HX0.out.2
  go_wp2_with fail
  refine (implTourOk n _ xs _ (HR.out.below HB0.out)).mono ?_
  rintro e w1 ⟨rfl, hb⟩
  have HX1 := Lib.hid (HX0.out.below hb)
  have HB1 := Lib.hid (Below.then HB0.out hb)
  clear hb HX0 HB0 y0_0 y1_0
  have y0_1 := HX1.out.1
  have y1_1 := HX1.out.2
  rw [q0]
  have HSH := Lib.hid hsh
  clear hsh
  go_wp2
  go_loopw [3, 4] (fun t3 t4 wr => ∃ (k g4 : Nat), k + 1 ≤ Q ∧ t4 = .pointer (some ⟨g4, 0, none⟩) ∧ w.heap.size ≤ g4 ∧ wr.cell? ⟨g4, 0, none⟩ = some (.int .i64 ((k + 1 : Nat) : Int)) ∧ t3 = .int .i64 (bkK xs n k : Nat) ∧ Hid (TBox wr w.heap.size n (.slice (some ⟨g, off, none⟩) n c)) ∧ Hid (Below w.heap.size w wr)) (fun _ t4 wr => Q - cellM t4 wr)
  case atStart =>
    have hb := below_alloc1 w1 (.cells #[.int .i64 1] 3)
    exact ⟨0, w1.heap.size, by omega, rfl, HB1.out.size, by rw [cell_new1]; rfl, rfl, Lib.hid (HX1.out.below hb), Lib.hid (Below.then HB1.out hb)⟩
  case round =>
    obtain ⟨wo, rfl⟩ : ∃ x, x = wr := ⟨_, rfl⟩
    obtain ⟨k, g4, hk, rfl, hg4, ck, rfl, HX, HB⟩ := hrel
    clear HX1 HB1 y0_1 y1_1
    have y0 := HX.out.1
    have y1 := HX.out.2
    have hsh := HSH.out
    have CK := Lib.hid ck
    have MEA : Hid (cellM (.pointer (some ⟨g4, 0, none⟩)) wo = k + 1) := Lib.hid (cellM_at CK.out)
    by_cases hlt : k + 1 < Q
    · have hlti : ((k + 1 : Nat) : Int) < (Q : Int) := by omega
      have hS : k + 1 < 2 ^ n := by rw [← HQ.out]; exact hlt
      have hg4w := World.block_lt_of_cell? _ _ ck
      have hbk := HLT.out k (by omega)
      have HNX : Hid (∀ W (B : Below wo.heap.size wo W) (v : Nat), v = bkK xs n (k + 1) → (∃ (k' g4' : Nat), k' + 1 ≤ Q ∧ (.pointer (some ⟨W.heap.size, 0, none⟩) : Value) = .pointer (some ⟨g4', 0, none⟩) ∧ w.heap.size ≤ g4' ∧ (W.alloc (.cells #[.int .i64 (((k + 1 : Nat) : Int) + 1)] 3)).cell? ⟨g4', 0, none⟩ = some (.int .i64 ((k' + 1 : Nat) : Int)) ∧ (.int .i64 (v : Nat) : Value) = .int .i64 (bkK xs n k' : Nat) ∧ Hid (TBox (W.alloc (.cells #[.int .i64 (((k + 1 : Nat) : Int) + 1)] 3)) w.heap.size n (.slice (some ⟨g, off, none⟩) n c)) ∧ Hid (Below w.heap.size w (W.alloc (.cells #[.int .i64 (((k + 1 : Nat) : Int) + 1)] 3)))) ∧ cellM (.pointer (some ⟨W.heap.size, 0, none⟩)) (W.alloc (.cells #[.int .i64 (((k + 1 : Nat) : Int) + 1)] 3)) = k + 1 + 1) := Lib.hid fun W B v hv => by
        have hb := below_alloc1 W (.cells #[.int .i64 (((k + 1 : Nat) : Int) + 1)] 3)
        have hB2 := Below.then HB.out B
        refine ⟨⟨k + 1, W.heap.size, by omega, rfl, hB2.size, by rw [cell_new1]; rfl, by rw [hv], Lib.hid ((HX.out.below B).below hb), Lib.hid (Below.then hB2 hb)⟩, cellM_at (by rw [cell_new1]; rfl)⟩
      have HST : Hid (bkK xs n (k + 1) = if okS xs n (k + 1) = true then bkIn xs (k + 1) (memN (k + 1) 8) (bkK xs n k) else bkK xs n k) := Lib.hid rfl
      have HBD : Hid (∀ j, bkIn xs (k + 1) ((memN (k + 1) 8).take j) (bkK xs n k) < 256) := Lib.hid fun j => by
        refine n256 HP.out (bkIn_lt (fun a ha => bit_lt hS (mem_memN.1 (List.mem_of_mem_take ha)).2) (by rw [← HQ.out]; exact hbk))
      have HM : Hid (∀ b ∈ memN (k + 1) 8, b < n) := Lib.hid fun b hb => bit_lt hS (mem_memN.1 hb).2
      unfold okS at HST
      rw [← HANY.out] at HST
      have T1 := Lib.hid (fun W (hW : Below wo.heap.size wo W) => trOn_any n (.slice (some ⟨g, off, none⟩) n c) xs (k + 1) W (HR.out.below (Below.then HB.out hW)) HP.out (by omega) hS)
      have hK256 : k + 1 < 256 := by omega
      generalize bkK xs n k = bo at *
      generalize hKe : k + 1 = K at *
      go_wp2_with fail
      have z0 := cell_regrown y0
      have z1 := cell_regrown y1
      have z2 := cell_regrown ck
      refine wp_region_below (by kernel_rfl) (by kernel_rfl) ?_
      repeat (go_big_quiet_step (first | fail))
      refine wpQuiet_nil ?_
      intro wq hbq0
      have BQ := Lib.hid hbq0
      have yq0 := (HX.out.below hbq0).1
      have yq1 := (HX.out.below hbq0).2
      have cq := (hbq0.cell (p := ⟨g4, 0, none⟩) hg4w).trans CK.out
      clear hbq0 z0 z1 z2 y0 y1 ck
      go_wp2_with fail
      refine (T1.out wq BQ.out).mono ?_
      rintro e w5 ⟨rfl, hb5'⟩
      have hb5 := Below.then BQ.out hb5'
      clear hb5' yq0 yq1 cq
      have HX5 := Lib.hid (HX.out.below hb5)
      have C5 := Lib.hid ((hb5.cell (p := ⟨g4, 0, none⟩) hg4w).trans CK.out)
      have B5 := Lib.hid hb5
      clear hb5
      have y0 := HX5.out.1
      have y1 := HX5.out.2
      have ck := C5.out
      rcases q1 : trN xs K with _ | _
      · rw [q1] at HST
        rw [Bool.false_and, if_neg (by decide)] at HST
        obtain ⟨n1, n2⟩ := HNX.out w5 B5.out bo HST.out.symm
        go_wp2
        go_roundw
        case rel => exact n1
        case measure => rw [n2, MEA.out]; omega
      · rw [q1, Bool.true_and] at HST
        go_wp2_with fail
        refine (containsFunc_any 68 #[.pointer (some ⟨g4, 0, none⟩)] enters_bk1 _ xs (bkP K) w5 (HR.out.below (Below.then HB.out B5.out)) (fun x hx W hW => by
          obtain ⟨a, ha, rfl⟩ := List.getElem_of_mem hx
          have hln := tour_len HP.out
          obtain ⟨h1, -, h3⟩ := HW.out a (by omega)
          have e : xs[a] = (winsN xs a : Int) := by rw [← h1]; simp [ha]
          rw [e]
          exact bk1_any (winsN xs a) K g4 W h3 hK256 ((hW.cell (p := ⟨g4, 0, none⟩) (World.block_lt_of_cell? _ _ C5.out)).trans C5.out))).mono ?_
        rintro e w6 ⟨rfl, hb6⟩
        have HX6 := Lib.hid (HX5.out.below hb6)
        have C6 := Lib.hid ((hb6.cell (p := ⟨g4, 0, none⟩) (World.block_lt_of_cell? _ _ C5.out)).trans C5.out)
        have B6 := Lib.hid (Below.then B5.out hb6)
        clear hb6 y0 y1 ck HX5 C5 B5
        have y0 := HX6.out.1
        have y1 := HX6.out.2
        have ck := C6.out
        rcases q2 : xs.any (bkP K) with _ | _
        · rw [q2, Bool.not_false, if_pos rfl] at HST
          go_wp2_with fail
          refine (membersOf_any K 8 _ hK256 (by omega)).mono ?_
          rintro e w7 ⟨v, rfl, ho, hb7⟩
          obtain ⟨A, d, rfl, hd1, hd2, hl⟩ := memL_cells ho
          unfold maxLen at hd1
          have HL := Lib.hid hl
          have HX7 := Lib.hid (HX6.out.below hb7)
          have C7 := Lib.hid ((hb7.cell (p := ⟨g4, 0, none⟩) (World.block_lt_of_cell? _ _ C6.out)).trans C6.out)
          have B7 := Lib.hid (Below.then B6.out hb7)
          clear hb7 y0 y1 ck HX6 C6 B6 ho hl
          have HX8 := Lib.hid (fun j hj => ((Below.then HB.out B7.out).cell (by exact hg)).trans (HXX.out j hj))
          have hm8 := memN_len K 8
          generalize hlst : memN K 8 = L at *
          generalize hLn : L.length = m at *
          have HLN := Lib.hid hLn
          clear hLn hlst
          go_wp2
          go_loopw [3, 30] (fun t3 t30 wr => ∃ (j : Nat), j ≤ m ∧ t30 = .int .i64 j ∧ t3 = .int .i64 (bkIn xs K (L.take j) bo : Nat) ∧ Hid (Below w7.heap.size w7 wr)) (fun _ t30 _ => m - (intOf t30).toNat)
          case atStart => exact ⟨0, by omega, rfl, by simp [bkIn], Lib.hid (Below.refl _ _)⟩
          case round =>
            obtain ⟨wi, rfl⟩ : ∃ x, x = wr := ⟨_, rfl⟩
            obtain ⟨j, hj, rfl, rfl, BI⟩ := hrel
            by_cases hlj : j < m
            · have hjl : j < L.length := by rw [HLN.out]; exact hlj
              obtain ⟨gm, om, rfl, hgm, hz⟩ := HL.out (by omega)
              have hzj := (BI.out.cell (by exact hgm)).trans (hz j hlj)
              have hbn := HM.out (L.getD j 0) (by rw [getD_nat hjl]; exact List.getElem_mem hjl)
              have hxb := (BI.out.cell (p := ⟨g, off + L.getD j 0, none⟩) (by have := (Below.then HB.out B7.out).size; show g < w7.heap.size; omega)).trans (HX8.out (L.getD j 0) hbn)
              have hw8 := (HW.out (L.getD j 0) hbn).2.2
              have HTK := Lib.hid (bkIn_take (xs := xs) (S := K) (o := bo) hjl)
              have hbd := HBD.out j
              have y0 := (HX7.out.below BI.out).1
              have y1 := (HX7.out.below BI.out).2
              have ck := (BI.out.cell (p := ⟨g4, 0, none⟩) (World.block_lt_of_cell? _ _ C7.out)).trans C7.out
              generalize bkIn xs K (L.take j) bo = bo1 at *
              generalize L.getD j 0 = b at *
              have hless := i64_andNot_nat K (winsN xs b) (by omega) (by omega)
              have hsb := shl_nat b (by omega)
              have hor := or_shl bo1 b (by omega) (by omega)
              rw [hsb] at hor
              have hpb : 2 ^ b < 256 := pow_lt8 (by omega)
              generalize 2 ^ b = pb at *
              have hcmp : ((less K (winsN xs b) : Nat) == pb) = decide (less K (winsN xs b) = pb) := by rw [Bool.eq_iff_iff, beq_iff_eq, decide_eq_true_eq]
              generalize winsN xs b = wb at *
              generalize less K wb = lw at *
              clear hz
              go_wp2_with fail
              have z0 := cell_regrown y0
              have z1 := cell_regrown y1
              have z2 := cell_regrown ck
              have z3 := cell_regrown hxb
              refine wp_region_below (by kernel_rfl) (by kernel_rfl) ?_
              repeat (go_big_quiet_step (first | fail))
              refine wpQuiet_nil ?_
              intro wq hbq0
              have BQ := Lib.hid (Below.then BI.out hbq0)
              clear hbq0 z0 z1 z2 z3 y0 y1 ck hxb
              by_cases hq : lw = pb
              · rw [if_pos hq] at HTK
                subst hq
                go_wp2
                go_roundw
                case rel => exact ⟨j + 1, by omega, by go_num, by first | rw [HTK.out] | (rw [HTK.out]; rfl), BQ⟩
                case measure => simp [intOf]; omega
              · rw [if_neg hq] at HTK
                have hd : decide (lw = pb) = false := decide_eq_false hq
                go_wp2
                go_roundw
                case rel => exact ⟨j + 1, by omega, by go_num, by first | rw [HTK.out] | (rw [HTK.out]; rfl), BQ⟩
                case measure => simp [intOf]; omega
            · obtain rfl : j = m := by omega
              rw [show L.take j = L from List.take_of_length_le (by rw [HLN.out]; exact Nat.le_refl _)] at *
              have BJ := Lib.hid (Below.then B7.out BI.out)
              have ck := (BI.out.cell (p := ⟨g4, 0, none⟩) (World.block_lt_of_cell? _ _ C7.out)).trans C7.out
              obtain ⟨n1, n2⟩ := HNX.out wi BJ.out (bkIn xs K L bo) HST.out.symm
              generalize bkIn xs K L bo = bo2 at *
              go_wp2
              go_roundw
              case rel => exact n1
              case measure => rw [n2, MEA.out]; omega
        · rw [q2, Bool.not_true, if_neg (by decide)] at HST
          obtain ⟨n1, n2⟩ := HNX.out w6 B6.out bo HST.out.symm
          go_wp2
          go_roundw
          case rel => exact n1
          case measure => rw [n2, MEA.out]; omega
    · have hkq : k + 1 = Q := by omega
      have hlti : ¬ (((k + 1 : Nat) : Int) < (Q : Int)) := by omega
      have hk' : k = Q - 1 := by omega
      subst hk'
      go_wp2_with fail
      have z0 := cell_regrown y0
      have z1 := cell_regrown y1
      have z2 := cell_regrown ck
      refine wp_region_below (by kernel_rfl) (by kernel_rfl) ?_
      repeat (go_big_quiet_step (first | fail))
      refine wpQuiet_nil ?_
      intro wq hbq0
      have BQ := Lib.hid (Below.then HB.out hbq0)
      clear hbq0 z0 z1 z2 y0 y1 ck
      go_wp2
      go_ret
      exact ⟨rfl, BQ.out⟩
end Go.Proofs.Ytkhjdijdcjgpfaa

namespace Go.Proofs.Ytkhjdijdcjgpfaa
open Go.RowKit Go.Sort
set_option maxRecDepth 100000

/-- what is said of a world outlives new blocks and turns of blocks from B on -/
def AbN {β : Type} (B : Nat) (J : β → World → Prop) : Prop := ∀ s W W' row, J s W → W.grownBy W' row → (∀ r, row = some r → B ≤ r) → J s W'
/-- what a round leaves: all cells outside block cb -/
structure KpC (cb : Nat) (W W' : World) : Prop where
  size : W.heap.size ≤ W'.heap.size
  same : ∀ (i : Nat) (o : Obj), i ≠ cb → W.heap[i]? = some o → o.isCells = true → W'.heap[i]? = some o
theorem KpC.trans {cb : Nat} {A B C : World} (h : KpC cb A B) (k : KpC cb B C) : KpC cb A C := ⟨Nat.le_trans h.size k.size, fun i o hi ho hc => k.same i o hi (h.same i o hi ho hc) hc⟩
theorem KpC.of_grown {cb : Nat} {W W' : World} (h : W.grownBy W' (some cb)) : KpC cb W W' := ⟨h.size, fun i o hi ho _ => (h.block i (Array.getElem?_eq_some_iff.1 ho).1 (fun e => by injection e with e; exact hi e)).trans ho⟩
theorem KpC.of_put {cb : Nat} {W : World} {l : Nat} {o : Obj} (o' : Obj) (h : W.heap[l]? = some o) (ho : o.isCells = false) : KpC cb W (W.putObj l o') :=
  ⟨by simp, fun i p _ hp hc => (World.putObj_heap_other (fun e => by subst e; rw [h] at hp; injection hp with hp; subst hp; rw [ho] at hc; cases hc)).trans hp⟩
theorem KpC.block {cb : Nat} {W W' : World} (h : KpC cb W W') {p : Addr} {v : Value} (hp : p.block ≠ cb) (hv : W.cell? p = some v) : W'.heap[p.block]? = W.heap[p.block]? := by
  obtain ⟨o, ho, hc⟩ : ∃ o : Obj, W.heap[p.block]? = some o ∧ o.isCells = true := by
    unfold World.cell? at hv
    cases ho : W.heap[p.block]? with
    | none => simp [ho] at hv
    | some o => exact ⟨o, rfl, by cases o <;> simp_all [Obj.isCells]⟩
  rw [h.same _ _ hp ho hc, ho]
theorem KpC.cell {cb : Nat} {W W' : World} (h : KpC cb W W') {p : Addr} {v : Value} (hp : p.block ≠ cb) (hv : W.cell? p = some v) : W'.cell? p = some v :=
  (World.cell?_of_block (h.block hp hv)).trans hv
/-- the contract of an iterator that gives all, in this order, whatever the rounds do to block cb -/
def SeqAll {β : Type} (P : Program) (gf : Nat) (lb : Array Value) (cb : Nat) (En : World → β → Value → Prop) (all : List β) (w0 : World) : Prop :=
  ∀ (l : Nat) (J : List β → World → Prop) (W : World), Below w0.heap.size w0 W → AbN W.heap.size J →
    (∀ pre x v W1, J pre W1 → En W1 x v → x ∈ all → YieldAt Fence.wide 0 P l #[v] W1 fun e W' => e = .returned (.bool true) ∧ J (pre ++ [x]) W' ∧ KpC cb W1 W') →
    J [] W → Calls P gf (#[.func (.yield l) #[] #[]] ++ lb) W fun e W' => (∃ v, e = .returned v) ∧ J all W'
/-- how a round's body is left -/
def postA {β : Type} (cb : Nat) (I : List β → World → Prop) (xs : List β) (W : World) : Exit → Act → World → Prop
  | .normal, _, W' => W.grownBy W' (some cb) ∧ I xs W'
  | .ret, _, _ => False
  | .exit _, _, _ => False
  | .goto _, _, _ => False
  | .panic _, _, _ => False
  | .outgrown, _, _ => False
theorem AbN.putObj {β : Type} {B : Nat} {I : β → World → Prop} (h : AbN B I) {s : β} {W : World} {l : Nat} (o' : Obj) (hs : I s W) (hB : B ≤ l) : I s (W.putObj l o') :=
  h s W _ (some l) hs (grownBy_putObj' W l o') (fun r e => by cases e; exact hB)
theorem AbN.alloc {β : Type} {B : Nat} {I : β → World → Prop} (h : AbN B I) {s : β} {W : World} (o : Obj) (hs : I s W) : I s (W.alloc o) :=
  h s W _ none hs (World.grownBy_alloc W o none) (fun r e => by cases e)
theorem wp_rangeFunc_all {P : Program} {β : Type} {g : Operand} {ps : Array Tmp} {assign body : Code} {Q : Exit → Act → World → Prop} {a : Act} {w : World} {gf : Nat} {lb : Array Value} (hg : a.eval g = .func (.func gf) #[] lb) (eg : ∀ args w, (callFunc gf args).run P w = .ok (.enter gf args) w)
    {cb : Nat} {En : World → β → Value → Prop} {all : List β} {w0 : World} (hseq : SeqAll P gf lb cb En all w0) (hb0 : Below w0.heap.size w0 w) (hcb : cb < w.heap.size) (hps : ps.size = 1)
    (hEn : ∀ W l o o' x v, W.heap[l]? = some o → o.isCells = false → En W x v → En (W.putObj l o') x v)
    (I : List β → World → Prop) (hI : AbN w.heap.size I) (h0 : I [] w) (a₁ : Value → Act)
    (hassign : ∀ (l : Nat) (v : Value) (W : World) (K : Act → World → Prop), K (a₁ v) W →
      assign.wpIn (Fence.wide.inRound l) 0 P (Exit.then K (fun _ _ _ => False)) { tmps := (ps.zip #[v]).foldl (fun t (p, v) => t.setIfInBounds p v) a.tmps, defers := [] } W)
    (hbody : ∀ (l : Nat) (pre : List β) (x : β) (v : Value) (W : World), I pre W → En W x v → x ∈ all → w.heap.size ≤ W.heap.size → body.wpIn (Fence.wide.inRound l) 0 P (postA cb I (pre ++ [x]) W) (a₁ v) W)
    (hdone : ∀ (D : Nat) (W : World), w.heap.size ≤ D → I all W → W.heap[D]? = some (.deferred (some [])) → Q .normal { a with defers := { target := .collected D, args := #[] } :: a.defers } W) :
    (Code.rangeFunc g ps assign body).wp P Q a w := by
  refine (wpIn_wide (n := 1)).1 (wpIn_rangeFunc ?_)
  intro fn hfn
  rw [show Fence.wide.round = none from rfl]
  obtain ⟨rec, hrec⟩ : ∃ rec : LoopState → Option Code → Loop, rec = fun st pe => { state := st, pending := pe, fn, tmps := a.tmps, params := ps, assign, body, defers := w.heap.size } := ⟨_, rfl⟩
  obtain ⟨W1, hW1⟩ : ∃ W1, (w.alloc (.deferred (some []))).alloc (.loop (rec .ready none)) = W1 := ⟨_, rfl⟩
  have hsz1 : W1.heap.size = w.heap.size + 1 + 1 := by rw [← hW1]; simp
  have hL1 : W1.heap[w.heap.size + 1]? = some (.loop (rec .ready none)) := by
    rw [← hW1]
    have := World.alloc_heap_new (w.alloc (.deferred (some []))) (.loop (rec .ready none))
    rwa [World.size_alloc] at this
  have hK1 : W1.heap[w.heap.size]? = some (.deferred (some [])) := by
    rw [← hW1]; exact (Below.heap_alloc _ _ _ (by simp)).trans (World.alloc_heap_new w _)
  have hI1 : I [] W1 := by rw [← hW1]; exact hI.alloc _ (hI.alloc _ h0)
  have hb1 : Below w0.heap.size w0 W1 := by
    rw [← hW1]; exact hb0.trans ((((Below.refl _ w).alloc (Nat.le_refl _) _).alloc (by simp) _).mono hb0.size)
  refine ⟨w.heap.size + 1, [{ target := .collected w.heap.size, args := #[] }], W1, { target := .fn (.func gf) lb, args := #[.func (.yield (w.heap.size + 1)) #[] #[]] }, W1, gf,
    #[.func (.yield (w.heap.size + 1)) #[] #[]] ++ lb, W1, ?_, ?_, fun _ _ => trivial, ?_, (fun h => by cases h), callsIn_wide.2 ?_⟩
  · rw [← hW1, hrec]; exact run_enterLoop_outer _ _ _ _ _
  · simp only [resolve, hg]
    simp [go_sem]
  · simp [invoke, go_sem, eg]
  · refine (hseq (w.heap.size + 1)
      (fun pre W => I pre W ∧ W.heap[w.heap.size + 1]? = some (.loop (rec .ready none)) ∧ W.heap[w.heap.size]? = some (.deferred (some [])))
      W1 hb1 (fun s A B row hs hg' hr => ?_) ?_ ⟨hI1, hL1, hK1⟩).mono ?_
    · have k : ∀ (i : Nat) (o : Obj), i < W1.heap.size → A.heap[i]? = some o → B.heap[i]? = some o := fun i o hi ho =>
        (hg'.block i (Array.getElem?_eq_some_iff.1 ho).1 (fun e => by have := hr i e.symm; omega)).trans ho
      exact ⟨hI s A B row hs.1 hg' (fun r e => by have := hr r e; omega), k _ _ (by omega) hs.2.1, k _ _ (by omega) hs.2.2⟩
    · rintro pre x v W ⟨hi, hl, hk⟩ hen hmem
      have hlt : w.heap.size + 1 < W.heap.size := (Array.getElem?_eq_some_iff.1 hl).1
      have hy := run_yield (P := P) (args := #[v]) hl (by rw [hrec]; exact hps.symm)
      rw [hrec] at hy
      refine ⟨fn, _, assign, body, hy, roundIn_of_wpIn hfn (hassign _ v W _ ⟨_, run_beginRound hl (by rw [hrec]), ?_⟩)⟩
      have hl2 : (W.putObj (w.heap.size + 1) (.loop { rec .ready none with state := .busy })).heap[w.heap.size + 1]? = some (.loop { rec .ready none with state := .busy }) := World.putObj_heap_same hlt
      have hk2 : (W.putObj (w.heap.size + 1) (.loop { rec .ready none with state := .busy })).heap[w.heap.size]? = some (.deferred (some [])) := (World.putObj_heap_other (by omega)).trans hk
      refine wpIn_mono (hbody _ pre x v _ (hI.putObj _ hi (by omega)) (hEn _ _ _ _ _ _ hl rfl hen) hmem (by simp; omega)) ?_
      rintro e a3 W3 hp
      cases e with
      | normal =>
        obtain ⟨hg3, hi3⟩ := hp
        have hl3 : W3.heap[w.heap.size + 1]? = some (.loop { rec .ready none with state := .busy }) := (hg3.block _ (by simp; omega) (fun e => by injection e; omega)).trans hl2
        have hk3 : W3.heap[w.heap.size]? = some (.deferred (some [])) := (hg3.block _ (by simp; omega) (fun e => by injection e; omega)).trans hk2
        have hr := run_endRound (P := P) none hl3
        refine ⟨_, _, hr, rfl, ⟨hI.putObj _ hi3 (by omega), ?_, (World.putObj_heap_other (by omega)).trans hk3⟩, ?_⟩
        · rw [World.putObj_heap_same (Array.getElem?_eq_some_iff.1 hl3).1, hrec]; rfl
        · exact ((KpC.of_put _ hl rfl).trans (KpC.of_grown hg3)).trans (KpC.of_put _ hl3 rfl)
      | ret => exact hp.elim
      | exit id => exact hp.elim
      | goto t => exact hp.elim
      | panic ch => exact hp.elim
      | outgrown => exact hp.elim
    · rintro e W2 ⟨⟨v, rfl⟩, hi, hl, hk⟩
      exact ⟨none, _, by have := run_endLoop (P := P) hl (by rw [hrec]; simp); rw [hrec] at this; exact this, hdone _ _ (Nat.le_refl _) (hI.putObj _ hi (by omega)) ((World.putObj_heap_other (by omega)).trans hk)⟩

/-! a region of a round that draws: by what holds of it outside -/
theorem wpOpsIn_of {P : Program} {ops : Array Oper} {Q : Exit → Act → World → Prop} (l n : Nat) (hnd : ∀ (i : Nat) (o : Oper), ops[i]? = some o → ∀ c, o.op ≠ .defer c) (hQ : ¬ LetsOut Q) :
    ∀ (list : List Nat) (a : Act) (w : World), wpOps P ops Q list a w → wpOpsIn (Fence.wide.inRound l) n P ops Q list a w := by
  intro list
  induction list with
  | nil => intro a w h; exact h
  | cons i rest ih =>
    intro a w h
    simp only [wpOps] at h
    simp only [wpOpsIn]
    cases ho : ops[i]? with
    | none => simp only [ho] at h; exact ih _ _ h
    | some o =>
      simp only [ho] at h
      by_cases hw : Region.wanted o (yielded ops a.tmps) = true
      · rw [if_pos hw] at h
        show if Region.wanted o (yielded ops a.tmps) = true then _ else _
        rw [if_pos hw]
        rcases h with h | h
        · refine ⟨fun _ _ => trivial, ?_⟩
          rw [Oper.semAt_eq _ _ _ (hnd i o ho)]
          unfold Oper.wp Oper.upon at h
          unfold Oper.uponIn
          generalize (execOp a.eval o).run P w = r at *
          split at h
          · exact ih _ _ h
          · exact ih _ _ h
          · exact ih _ _ h
          · refine ⟨(fun h => by cases h), CallsIn.inRound l (callsIn_wide.2 (h.mono ?_))⟩
            intro e w' he
            cases e with
            | returned v => exact ih _ _ he
            | panicked chain => exact he
            | outgrown => exact he
          · refine ⟨(fun h => by cases h), fun c cs _ => ?_⟩
            obtain ⟨v, w'', hR, hs⟩ := h c cs
            exact ⟨v, w'', ih _ _ hR, stepsIn_wide.2 hs⟩
          · exact h
          · exact h.elim
        · exact absurd h.2 hQ
      · rw [if_neg hw] at h
        show if Region.wanted o (yielded ops a.tmps) = true then _ else _
        rw [if_neg hw]
        exact ⟨fun _ _ => trivial, ih _ _ h⟩
def noDefer (l : List Oper) : Bool := l.all fun o => match o.op with | .defer _ => false | _ => true
theorem noDefer_spec {l : List Oper} (h : noDefer l = true) : ∀ (i : Nat) (o : Oper), l.toArray[i]? = some o → ∀ c, o.op ≠ .defer c := by
  intro i o ho c e
  have hm : o ∈ l := by
    rw [List.getElem?_toArray] at ho
    exact List.mem_of_getElem? ho
  have := List.all_eq_true.1 h o hm
  rw [e] at this
  simp at this
theorem round_region {P : Program} {ops : Array Oper} {Q : Exit → Act → World → Prop} {id l n : Nat} {a : Act} {w : World} (hnd : ∀ (i : Nat) (o : Oper), ops[i]? = some o → ∀ c, o.op ≠ .defer c) (hQ : ¬ LetsOut Q) (hm : P.follows .mixedOrders = true)
    (h : wpAny P .any ops Q ops.size (Array.replicate ops.size false) a { w with drawn := w.drawn + 1 }) : (Code.region id ops true).wpIn (Fence.wide.inRound l) n P Q a w :=
  wpIn_region_draw fun t => by
    simp only [Region.schedule, hm, Bool.true_or, if_true]
    exact wpOpsIn_of l n hnd hQ _ _ _ (wpAny_sound ops.size t _ a _ h)
theorem round_region_below {P : Program} {Q : Exit → Act → World → Prop} {id l n : Nat} {a : Act} {w : World} {ol : List Oper} (hnd : ∀ (i : Nat) (o : Oper), ol.toArray[i]? = some o → ∀ c, o.op ≠ .defer c) (hQ : ¬ LetsOut Q) (hm : P.follows .mixedOrders = true) (hB : Region.lexB .any ol.toArray = true)
    (h : wpQuiet P ol.toArray (fun w' => ∃ p : Regrown, w' = grow (redrawn w p.d) p.os) (fun a' => ∀ w', Below w.heap.size w w' → Q .normal a' w') ol a) : (Code.region id ol.toArray true).wpIn (Fence.wide.inRound l) n P Q a w := by
  have hB' := hB
  simp only [Region.lexB, Bool.and_eq_true] at hB
  refine round_region hnd hQ hm (wpAny_of_quiet (C := fun w' => ∃ p : Regrown, w' = grow (redrawn w p.d) p.os) (Q := fun a' => ∀ w', (∃ p : Regrown, w' = grow (redrawn w p.d) p.os) → Q .normal a' w') (fun _ w' hw' h => h w' hw') _ _ _ _ ⟨⟨w.drawn + 1, #[]⟩, by rw [grow_empty]; rfl⟩ ?_)
  have e : (fun a' => ∀ w', (∃ p : Regrown, w' = grow (redrawn w p.d) p.os) → Q .normal a' w') = (fun a' => ∀ w', Below w.heap.size w w' → Q .normal a' w') := by
    funext a'
    exact propext ⟨fun h w' hb => h w' (regrown_of_below hb), fun h w' ⟨p, hp⟩ => by subst hp; exact h _ (below_regrown w p.d p.os)⟩
  rw [e]
  have := wpAnyQ_lex (C := fun w' => ∃ p : Regrown, w' = grow (redrawn w p.d) p.os) (md := .any) hB.1 ol.toArray.toList 0 (Array.replicate ol.toArray.size false) a (by simp) (by simpa using hB.2) (by simpa using h)
  simpa using this
theorem calls_of_wpM {P : Program} {f : FuncId} {fn : Func} {c : Code} {args : Array Value} {w : World} {R : Ending → World → Prop} (hf : P.funcs[f]? = some fn) (hb : fn.body = some c)
    (h : c.wp P (bodyPostM Fence.wide 3 P fn R) { tmps := args ++ Array.replicate (fn.ntmps - args.size) undef, defers := [] } w) : Calls P f args w R :=
  callsIn_wide.1 (callsIn_of_wp_marks (n := 3) hf hb trivial (wpIn_wide.2 h) rfl)
theorem rd_put {W : World} {l : Nat} {o o' : Obj} {v : Value} {xs : List Int} (h : W.heap[l]? = some o) (ho : o.isCells = false) (hr : Rd W v xs) : Rd (W.putObj l o') v xs := by
  obtain ⟨A, c, rfl, h1, h2, h3⟩ := hr
  refine ⟨A, c, rfl, h1, h2, fun h0 => ?_⟩
  obtain ⟨b, off, rfl, hb, hx⟩ := h3 h0
  exact ⟨b, off, rfl, by simp; exact hb, fun k hk => (KpC.of_put (cb := b + 1) o' h ho).cell (p := ⟨b, off + k, none⟩) (by show b ≠ b + 1; omega) (hx k hk)⟩
end Go.Proofs.Ytkhjdijdcjgpfaa

