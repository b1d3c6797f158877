/- Texts put together: WayOn, TOf, HofR, Lok, Thr, Lev, Idx, Parts. -/
import Derived.Test.YtajeledbmnndmaaMOrders02
import Derived.Test.YtajeledbmnndmaaMOrders01
import Derived.Test.YtajeledbmnndmaaMOrders06
import Derived.Lib.SliceRun
namespace Go.Proofs.Ytajeledbmnndmaa
open Go.RowKit Go.Sort
set_option maxRecDepth 100000
theorem run_neq_slice_nil {P : Program} (w : World) (t e : TypeId) (a : Option Addr) (n c n' c' : Nat) (h : P.underlying t = some (.slice e)) :
    (binOp .neq t (.slice a n c) (.slice none n' c')).run P w = .ok (.bool (!a.isNone)) w := by
  simp only [binOp]
  simp [Op.equal, Op.maxDepth, Lib.run_equalIn_slice_nil w 9999 t e a n c n' c' h]
theorem grown_new {a b c : World} {row row' : Option Nat} (h : a.grownBy b row) (k : b.grownBy c row') (hn : ∀ g, row' = some g → a.heap.size ≤ g ∨ some g = row) : a.grownBy c row :=
  ⟨k.os.trans h.os, k.tape.trans h.tape, k.output.trans h.output, Nat.le_trans h.size k.size, fun i hi hne => (k.block i (Nat.lt_of_lt_of_le hi h.size) (fun e => by
    rcases hn i e.symm with h1 | h1
    · omega
    · exact hne h1)).trans (h.block i hi hne)⟩
theorem grown_below {a b : World} (h : Below a.heap.size a b) (row : Option Nat) : a.grownBy b row := ⟨h.os, h.tape, h.output, h.size, fun i hi _ => h.block i hi⟩
theorem below_of_grown {C a b : World} {row : Option Nat} (h : Below C.heap.size C a) (k : a.grownBy b row) (hr : ∀ g, row = some g → C.heap.size ≤ g) : Below C.heap.size C b := h.grown k h.size hr
theorem memN_at' {S n b : Nat} (h : b ∈ memN S n) : b < n := (mem_memN.1 h).1
theorem cell_new1 (w : World) (x : Value) (t : TypeId) : (w.alloc (.cells #[x] t)).cell? ⟨w.heap.size, 0, none⟩ = some x := by simp
theorem ne5 {W : World} {B g g5 q l c c5 : Nat} (hB : B < W.heap.size) (hg : B ≠ g) (hat : Value.slice (some ⟨g, 0, none⟩) q c = .slice (some ⟨g5, 0, none⟩) l c5 ∨ g5 = W.heap.size) : some B ≠ (Value.slice (some ⟨g5, 0, none⟩) (l + 1) c5).ownBlock := by
  intro h
  injection h with h
  have h : B = g5 := h
  rcases hat with e | e
  · injection e with e1 _ _
    injection e1 with e1
    injection e1 with e1 _ _
    omega
  · omega
def WantP (F : FuncId) (caps : Array Value) (want : List Nat → Bool) (k n : Nat) (wC : World) : Prop :=
  ∀ (way : List Nat) (v : Value) (W : World), way.length = k → (∀ x ∈ way, x < n) → Below wC.heap.size wC W → Rd W v (nI way) →
    Calls Try.prog F (#[v] ++ caps) W fun e w'' => e = .returned (.bool (want way)) ∧ Below W.heap.size W w''
def WayPost (xs : List Int) (want : List Nat → Bool) (k m : Nat) (way : List Nat) (base : Nat) (v : Value) (w : World) (e : Ending) (w' : World) : Prop :=
  ∃ v', e = .returned v' ∧ (∀ L, dfs xs xs.length want m way = some L → (∃ g c, v' = .slice (some ⟨g, 0, none⟩) k c) ∧ Own w' w.heap.size v' (nI L)) ∧ (dfs xs xs.length want m way = none → v' = .slice none 0 0) ∧
    w.grownBy w' v.ownBlock ∧ Own w' base v (nI way)
set_option maxHeartbeats 1000000 in
theorem wayOn_zero (s : Int) (sl : Value) (xs : List Int) (F : FuncId) (caps : Array Value) (hE : Enters F) (want : List Nat → Bool) (k : Nat) (wC : World) (hf : WantP F caps want k xs.length wC) (hk : 1 ≤ k ∧ k ≤ 8)
    (way : List Nat) (base : Nat) (v : Value) (w : World) (hb : Below wC.heap.size wC w) (ho : Own w base v (nI way)) (hl : way.length = k) (hx : ∀ x ∈ way, x < xs.length) :
    Calls Try.prog 94 #[.agg #[.int .i64 s, sl], v, .int .i64 k, .func (.func F) #[] caps] w (WayPost xs want k 0 way base v w) := by
  obtain ⟨g, c, rfl, hbg, hc, hkc, -, -⟩ := ho.at_ (n := k) (by rw [nI_len, hl]) hk.1
  have HO := Lib.hid ho
  have HF := Lib.hid hf
  have HB := Lib.hid hb
  have HX := Lib.hid hx
  have HL := Lib.hid hl
  clear ho hf hb hx hl
  have hE' : ∀ (args : Array Value) (W : World), (callFunc F args).run Try.prog W = .ok (.enter F args) W := hE
  have hD : Hid (dfs xs xs.length want 0 way = if want way = true then some way else none) := rfl
  unfold maxLen at hc
  go_enter Try.func94, Try.ntmps94
  go_wp2_with fail
  have HB0 := Lib.hid (below_alloc1 w (.cells #[.int .i64 s, sl] 28))
  generalize w.alloc (.cells #[.int .i64 s, sl] 28) = w0 at *
  go_wp2_with fail
  refine (HF.out way _ w0 HL.out HX.out (Below.then HB.out HB0.out) (HO.out.rd.below HB0.out)).mono ?_
  rintro e w1 ⟨rfl, hb1⟩
  have HB1 := Lib.hid (Below.then HB0.out hb1)
  have HO1 := Lib.hid (HO.out.below HB1.out)
  clear hb1 HB0
  rcases q : want way with _ | _
  · rw [q] at hD
    go_wp2
    go_ret
    exact ⟨.slice none 0 0, rfl, fun L h => by (rw [hD.out] at h; cases h), fun _ => rfl, grown_below HB1.out _, HO1.out⟩
  · rw [q] at hD
    go_wp2_with fail
    refine (clone_any _ (nI way) w1 HO1.out.rd (by rw [nI_len, HL.out]; exact hk.1) (by rw [nI_len, HL.out]; omega)).mono ?_
    rintro e w2 ⟨v2, rfl, ho2, hb2⟩
    obtain ⟨g2, c2, rfl, -, -, -, -, -⟩ := ho2.at_ (n := k) (by rw [nI_len, HL.out]) hk.1
    have HO2 := Lib.hid (ho2.mono HB1.out.size)
    have HB2 := Lib.hid (Below.then HB1.out hb2)
    have HO3 := Lib.hid (HO.out.below HB2.out)
    clear ho2 hb2
    go_wp2
    go_ret
    refine ⟨.slice (some ⟨g2, 0, none⟩) k c2, rfl, fun L h => ?_, fun h => ?_, grown_below HB2.out _, HO3.out⟩
    · rw [hD.out] at h
      injection h with h
      subst h
      exact ⟨⟨_, _, rfl⟩, HO2.out⟩
    · rw [hD.out] at h; cases h
set_option maxHeartbeats 4000000 in
theorem wayOn_any (s : Int) (sl : Value) (xs : List Int) (hp : tourP s xs) (F : FuncId) (caps : Array Value) (hE : Enters F) (want : List Nat → Bool) (k : Nat) (wC : World) (hR : Rd wC sl xs) (hf : WantP F caps want k xs.length wC) (hk : 1 ≤ k ∧ k ≤ 8) (m : Nat) :
    ∀ (way : List Nat) (base : Nat) (v : Value) (w : World), Below wC.heap.size wC w → wC.heap.size ≤ base → base ≤ w.heap.size → Own w base v (nI way) → 0 < way.length → way.length + m = k → (∀ x ∈ way, x < xs.length) →
    Calls Try.prog 94 #[.agg #[.int .i64 s, sl], v, .int .i64 k, .func (.func F) #[] caps] w (WayPost xs want k m way base v w) := by
  induction m with
  | zero =>
    intro way base v w hb _ _ ho h0 hl hx
    exact wayOn_zero s sl xs F caps hE want k wC hf hk way base v w hb ho hl hx
  | succ m ih =>
    intro way base v w hb hbC hbw ho h0 hl hx
    have IH := Lib.hid ih
    clear ih
    obtain ⟨q, hpl⟩ : ∃ q, way.length = q := ⟨_, rfl⟩
    obtain ⟨p, hpq⟩ : ∃ p, q = p + 1 := ⟨q - 1, by omega⟩
    have hpq1 : p < q := by omega
    obtain ⟨g, c, rfl, hbg, hc, hkc, hcell, -⟩ := ho.at_ (n := q) (by rw [nI_len, hpl]) (by omega)
    have hlastc := hcell p (by omega)
    rw [nI_getD (by omega)] at hlastc
    have hgw := (ho.lt g rfl).2
    obtain ⟨gt, off, ct, rfl, hmt, hgt, hxt⟩ := tour_cells hR hp
    have hlt : way.getD p 0 < xs.length := hx _ (by rw [getD_nat (by omega)]; exact List.getElem_mem _)
    have hwin := (hb.cell (p := ⟨gt, off + way.getD p 0, none⟩) hgt).trans (hxt _ hlt)
    have hgtw : gt < w.heap.size := Nat.lt_of_lt_of_le hgt hb.size
    have hW := (tour_wins hp hlt).2.1
    have hs := hp.1
    have hsl := hp.2.1
    have HXT := Lib.hid hxt
    have HO := Lib.hid ho
    have HB := Lib.hid hb
    have HX := Lib.hid hx
    have HL := Lib.hid hl
    have HP := Lib.hid hpl
    have hD : Hid (dfs xs xs.length want (m + 1) way = (cand xs xs.length way).findSome? fun b => dfs xs xs.length want m (way ++ [b])) := rfl
    have hC : Hid (cand xs xs.length way = memN (less (winsN xs (way.getD p 0)) (setW way)) xs.length) := by
      unfold Hid cand lastN; rw [memN_lessW, hpl, hpq]; rfl
    have HR := Lib.hid hR
    have hWw := setW_lt hx
    clear ho hb hx hcell hxt hp hR
    unfold maxLen at hc hmt
    have hpk : q < k := by omega
    generalize hn : xs.length = n at *
    obtain rfl : s = n := by omega
    rw [show ((n : Int)).toNat = n from rfl] at hW
    have hn8 : n ≤ 8 := by omega
    have hp8 := pow_le hn8
    generalize hlw : way.getD p 0 = last at *
    have hand := i64_andNot_nat (winsN xs last) (setW way) (by omega) (by omega)
    have hSW : less (winsN xs last) (setW way) < 2 ^ n := less_lt hW
    have hidx : IntKind.i64.wrap ((q : Int) - 1) = p := by rw [show (q : Int) - 1 = p by omega]; rw [IntKind.wrap_i64]; omega
    have i1 : (0 : Int) ≤ p := by omega
    have i2 : (p : Int) < q := by omega
    have i3 : (0 : Int) ≤ last := by omega
    have i4 : (last : Int) < n := by omega
    clear hpq
    have HN := Lib.hid hn
    have hq : (q == k) = false := by simp; omega
    clear hn hl hpl
    go_enter Try.func94, Try.ntmps94
    go_wp2_with fail
    have b0 := below_alloc1 w (.cells #[.int .i64 n, .slice (some ⟨gt, off, none⟩) n ct] 28)
    have x0 := TBox.new w n (.slice (some ⟨gt, off, none⟩) n ct) 28
    generalize w.alloc (.cells #[.int .i64 n, .slice (some ⟨gt, off, none⟩) n ct] 28) = w0 at *
    have HX0 := Lib.hid x0
    have HB0 := Lib.hid b0
    clear x0 b0
    have y0_0 := HX0.out.1
    have y1_0 := HX0.out.2
    have hlast0 := (HB0.out.cell (p := ⟨g, p, none⟩) hgw).trans hlastc
    have hwin0 := (HB0.out.cell (p := ⟨gt, off + last, none⟩) hgtw).trans hwin
    have hsz0 := HB0.out.size
    have HRD := Lib.hid (show Rd w0.drew (.slice (some ⟨g, 0, none⟩) q c) (nI way) from (HO.out.below HB0.out).rd)
    have HDX := Lib.hid (show TBox w0.drew w.heap.size n (.slice (some ⟨gt, off, none⟩) n ct) from HX0.out)
    have HDB := Lib.hid (show Below w.heap.size w w0.drew from ⟨HB0.out.os, HB0.out.tape, HB0.out.output, HB0.out.size, HB0.out.block⟩)
    have hlastd : w0.drew.cell? ⟨g, p, none⟩ = some (.int .i64 (last : Nat)) := hlast0
    have hwind : w0.drew.cell? ⟨gt, off + last, none⟩ = some (.int .i64 (winsN xs last : Nat)) := hwin0
    have hszd : w.heap.size ≤ w0.drew.heap.size := hsz0
    have HX8 := Lib.hid (fun x hx => show x < 8 from by have := HX.out x hx; omega)
    clear hlastc hwin
    go_wp2_with fail
    go_region_held3 (fun W => W.cell? ⟨w.heap.size, 1, none⟩ = some (.slice (some ⟨gt, off, none⟩) n ct) ∧ W.cell? ⟨g, p, none⟩ = some (.int .i64 (last : Nat)) ∧ W.cell? ⟨gt, off + last, none⟩ = some (.int .i64 (winsN xs last : Nat)))
      (first | exact ⟨y1_0, hlast0, hwin0⟩ | exact ⟨y1_2, hlast2, hwin2⟩)
      (first
        | (go_at_call 115; refine (isetOf_any _ way w0.drew HRD.out HX8.out).mono ?_; rintro e wz ⟨rfl, rfl⟩)
        | (go_at_call 74; refine (membersOf_any (less (winsN xs last) (setW way)) n w0.drew hSW (by omega)).mono ?_; rintro e w2 ⟨v2, rfl, ho2, hb2⟩; have HB2 := Lib.hid (Below.then HDB.out hb2); have HO2 := Lib.hid (ho2.mono HDB.out.size); have hlast2 := (hb2.cell (p := ⟨g, p, none⟩) (Nat.lt_of_lt_of_le hgw hszd)).trans hlastd; have hwin2 := (hb2.cell (p := ⟨gt, off + last, none⟩) (Nat.lt_of_lt_of_le hgtw hszd)).trans hwind; have HX2 := Lib.hid (HDX.out.below hb2); have y1_2 := HX2.out.2; obtain ⟨A2, d2, rfl, hd1, hd2, hl2⟩ := memL_cells ho2; clear hb2 ho2))
    have qT : ∀ (w : World) (a : Option Addr) (n c n' c' : Nat), (binOp .neq 22 (.slice a n c) (.slice none n' c')).run Try.prog w = .ok (.bool (!a.isNone)) w := fun w a n c n' c' => run_neq_slice_nil w _ _ a n c n' c' Try.underlying22
    unfold maxLen at hd1
    have HLC := Lib.hid hl2
    have HBX := Lib.hid (fun (g2 off2 : Nat) (h : A2 = some ⟨g2, off2, none⟩) => (HO2.out.lt g2 (by rw [h]; rfl)).1)
    have HLT := Lib.hid (fun b (h : b ∈ memN (less (winsN xs last) (setW way)) n) => (memN_at' h))
    have HC2 : Hid (cand xs n way = memN (less (winsN xs last) (setW way)) n) := hC
    have hmn := memN_len (less (winsN xs last) (setW way)) n
    have HDF : Hid (dfs xs n want (m + 1) way = (cand xs n way).findSome? fun b => dfs xs n want m (way ++ [b])) := hD
    clear hl2 hC hD hlast2 hwin2 hlast0 hwin0 hlastd hwind y1_2 y0_0 y1_0
    generalize memN (less (winsN xs last) (setW way)) n = LL at *
    generalize hmm : LL.length = mm at *
    have HMM := Lib.hid hmm
    clear hmm hand hSW
    have HO2w : Hid (Own w2 base (.slice (some ⟨g, 0, none⟩) q c) (nI way)) := HO.out.below HB2.out
    have HCL := Lib.hid (below_of_grown HB.out (grown_below HB2.out (some g)) (fun x h => by injection h with h; omega))
    have hsz2 := HB2.out.size
    clear HB0 HX0 HRD HDX HDB hszd HR HXT
    go_wp2
    go_loopw [36] (fun i wr => ∃ j : Nat, j ≤ mm ∧ i = .int .i64 j ∧ Hid (∀ a, a < j → dfs xs n want m (way ++ [LL.getD a 0]) = none) ∧ Hid (w2.grownBy wr (some g)) ∧ Hid (Own wr base (.slice (some ⟨g, 0, none⟩) q c) (nI way))) (fun i _ => mm - (intOf i).toNat)
    case atStart => exact ⟨0, by omega, rfl, fun a ha => absurd ha (by omega), World.grownBy.refl _ _, HO2w.out⟩
    case round =>
      obtain ⟨wo, rfl⟩ : ∃ x, x = wr := ⟨_, rfl⟩
      obtain ⟨j, hj, rfl, HDN, HG, HOW⟩ := hrel
      by_cases hjm : j < mm
      · have hjl : j < LL.length := by rw [HMM.out]; exact hjm
        have hb := HLT.out (LL.getD j 0) (by rw [getD_nat hjl]; exact List.getElem_mem _)
        have hnw : LL.getD j 0 < n ∧ ∀ x ∈ way ++ [LL.getD j 0], x < n := ⟨hb, fun x hx => by
          rw [List.mem_append, List.mem_singleton] at hx
          rcases hx with hx | rfl
          · exact HX.out x hx
          · exact hb⟩
        have HNW := Lib.hid hnw.2
        obtain ⟨g2, off2, rfl, hg2w, hcl2⟩ := HLC.out (by omega)
        have hbg2 := HBX.out g2 off2 rfl
        have hcj := hcl2 j hjm
        have hne2 : some g2 ≠ some g := by intro h; injection h with h; omega
        have hcjo := (World.cell?_of_block (a := ⟨g2, off2 + j, none⟩) (HG.out.block g2 hg2w hne2)).trans hcj
        have HXo := Lib.hid (HX2.out.kept HG.out (by intro h; injection h with h; omega))
        have y0_0 := HXo.out.1
        have y1_0 := HXo.out.2
        have hszo := HG.out.size
        have HDj := Lib.hid (show ∀ F : Nat → Option (List Nat), F (LL.getD j 0) = F (LL.getD j 0) from fun _ => rfl)
        clear hcj hcl2 hnw
        obtain ⟨b, hbe⟩ : ∃ b, LL.getD j 0 = b := ⟨_, rfl⟩
        rw [hbe] at hb HNW hcjo
        have HBE := Lib.hid hbe
        clear hbe HDj
        have HXa := Lib.hid ((show TBox wo.drew w.heap.size n (.slice (some ⟨gt, off, none⟩) n ct) from HXo.out).below (below_alloc1 wo.drew (.cells #[.int .i64 (b : Nat)] 3)))
        have HOa := Lib.hid ((show Own wo.drew base (.slice (some ⟨g, 0, none⟩) q c) (nI way) from HOW.out).below (below_alloc1 wo.drew (.cells #[.int .i64 (b : Nat)] 3)))
        have hnew : (wo.drew.alloc (.cells #[.int .i64 (b : Nat)] 3)).cell? ⟨wo.drew.heap.size, 0, none⟩ = some (.int .i64 (b : Nat)) := cell_new1 wo.drew _ _
        have HNEW : Hid ((wo.drew.alloc (.cells #[.int .i64 (b : Nat)] 3)).cell? ⟨wo.heap.size, 0, none⟩ = some (.int .i64 (b : Nat))) := hnew
        clear hnew
        have y0_a := HXa.out.1
        have y1_a := HXa.out.2
        have y0_d : wo.drew.cell? ⟨w.heap.size, 0, none⟩ = some (.int .i64 n) := y0_0
        have y1_d : wo.drew.cell? ⟨w.heap.size, 1, none⟩ = some (.slice (some ⟨gt, off, none⟩) n ct) := y1_0
        have HQN : Hid ((nI way).length = q) := by unfold Hid; rw [nI_len]; exact HP.out
        have hda : w.heap.size ≤ (wo.drew.alloc (.cells #[.int .i64 (b : Nat)] 3)).heap.size := by simp; omega
        have hbase5 : base ≤ (wo.drew.alloc (.cells #[.int .i64 (b : Nat)] 3)).heap.size := Nat.le_trans hbw hda
        have HLA := Lib.hid (World.block_lt_of_cell? _ _ HXa.out.1)
        have HGN : Hid (w.heap.size ≠ g) := by unfold Hid; omega
        have HNEG : Hid (some w.heap.size ≠ (Value.slice (some ⟨g, 0, none⟩) q c).ownBlock) := by intro h; injection h with h; have h : w.heap.size = g := h; omega
        have HGC := Lib.hid (fun x (h : some g = some x) => show wC.heap.size ≤ x from by injection h with h; omega)
        have HL2 : Hid (0 < (way ++ [b]).length ∧ (way ++ [b]).length + m = k) := by have := HL.out; have := HP.out; unfold Hid; rw [List.length_append, List.length_singleton]; omega
        go_wp2_with fail
        go_region_held3 (fun W => W.cell? ⟨w.heap.size, 0, none⟩ = some (.int .i64 n) ∧ W.cell? ⟨w.heap.size, 1, none⟩ = some (.slice (some ⟨gt, off, none⟩) n ct))
          (first | exact ⟨y0_0, y1_0⟩ | exact ⟨y0_d, y1_d⟩ | exact ⟨y0_a, y1_a⟩ | exact ⟨y0_5, y1_5⟩ | exact ⟨y0_6, y1_6⟩)
          (first
            | (go_at_call 94; refine (IH.out (way ++ [b]) base _ w5 HB5.out hbC hbw5 HO5.out HL2.out.1 HL2.out.2 HNW.out).mono ?_; rintro e w6 ⟨v6, rfl, hs6, hn6, hg6, ho6⟩; have HX6 := Lib.hid (HX5.out.kept hg6 HNE5.out); have y0_6 := HX6.out.1; have y1_6 := HX6.out.2; have HS6 := Lib.hid hs6; have HN6 := Lib.hid hn6; have HG6 := Lib.hid hg6; have HO6 := Lib.hid ho6; clear hs6 hn6 hg6 ho6)
            | (refine step_append1k (wo.drew.alloc (.cells #[.int .i64 (b : Nat)] 3)) rfl (.tmp 41) (.tmp 43) rfl base (.slice (some ⟨g, 0, none⟩) q c) (nI way) q HQN.out (b : Int) wo.heap.size (by simp [Act.eval]) HOa.out (by simp [Act.eval]) HNEW.out (by omega) hbase5 ?_; intro g5 c5 w5 ho5 hk5 hg5 hat5; have HX5 := Lib.hid (HXa.out.kept hg5 HNEG.out); have y0_5 := HX5.out.1; have y1_5 := HX5.out.2; have HO5 := Lib.hid (show Own w5 base (.slice (some ⟨g5, 0, none⟩) (q + 1) c5) (nI (way ++ [b])) from by rw [nI_snoc]; exact ho5); have HK5 := Lib.hid hk5; have HG5 := Lib.hid (HG.out.trans (let z := grown_of_alloc hg5; (⟨z.os, z.tape, z.output, z.size, z.block⟩ : wo.grownBy w5 (some g)))); have hbw5 : base ≤ w5.heap.size := Nat.le_trans hbase5 hg5.size; have HB5 := Lib.hid (below_of_grown HCL.out HG5.out HGC.out); have HNE5 : Hid (some w.heap.size ≠ (Value.slice (some ⟨g5, 0, none⟩) (q + 1) c5).ownBlock) := ne5 HLA.out HGN.out hat5; have HAT5 := Lib.hid hat5; clear ho5 hk5 hg5 hat5))
        have HG7 := Lib.hid (grown_new HG5.out HG6.out (fun x hx => by
          have hx : g5 = x := by injection hx
          rcases HAT5.out with e | e
          · injection e with e1 _ _
            injection e1 with e1
            injection e1 with e1 _ _
            exact .inr (by rw [← hx, ← e1])
          · refine .inl ?_
            have := HG.out.size
            have h5 : (wo.drew.alloc (.cells #[.int .i64 (b : Nat)] 3)).heap.size = wo.heap.size + 1 := by simp
            omega))
        have HO7 : Hid (Own w6 base (.slice (some ⟨g, 0, none⟩) q c) (nI way)) := by
          rcases HAT5.out with e | e
          · have h6 := HO6.out
            rw [nI_snoc] at h6
            injection e with e1 _ e3
            injection e1 with e1
            injection e1 with e1 _ _
            subst e1 e3
            exact own_prefix HQN.out h6
          · exact HK5.out.kept HG6.out (.inr (by
              intro h
              injection h with h
              have h : g = g5 := h
              have h5 : (wo.drew.alloc (.cells #[.int .i64 (b : Nat)] 3)).heap.size = wo.heap.size + 1 := by simp
              omega))
        have HW5 : Hid (w.heap.size ≤ w5.heap.size) := Nat.le_trans hsz2 HG5.out.size
        have HGR := Lib.hid ((grown_below HB2.out (some g)).trans HG7.out)
        clear HG6 HG5 HK5 HO6 HX5 HX6 HB5 HAT5 HXa HOa HNEW HNEG HNE5 y0_0 y1_0 y0_d y1_d y0_a y1_a y0_5 y1_5 y0_6 y1_6
        rcases hd : dfs xs n want m (way ++ [b]) with _ | L
        · have hv := HN6.out (by rw [HN.out]; exact hd)
          subst hv
          have HHD := Lib.hid hd
          clear hd
          go_wp2
          go_roundw
          case rel =>
            refine ⟨j + 1, by omega, by go_num, fun a ha => ?_, HG7.out, HO7.out⟩
            by_cases haj : a < j
            · exact HDN.out a haj
            · obtain rfl : a = j := by omega
              rw [HBE.out]; exact HHD.out
          case measure => simp [intOf]; omega
        · obtain ⟨⟨g6, c6, rfl⟩, ho⟩ := HS6.out L (by rw [HN.out]; exact hd)
          have HR6 : Hid (dfs xs n want (m + 1) way = some L) := by
            unfold Hid
            rw [HDF.out, HC2.out]
            exact fs_hit hjl HDN.out (by rw [HBE.out]; exact hd)
          have HOL := Lib.hid (ho.mono HW5.out)
          clear hd ho
          go_wp2
          go_ret
          unfold WayPost
          rw [HN.out]
          refine ⟨.slice (some ⟨g6, 0, none⟩) k c6, rfl, fun L' h => ?_, fun h => ?_, HGR.out, HO7.out⟩
          · rw [HR6.out] at h
            injection h with h
            subst h
            exact ⟨⟨_, _, rfl⟩, HOL.out⟩
          · rw [HR6.out] at h; cases h
      · obtain rfl : mm = j := by omega
        have HR6 : Hid (dfs xs n want (m + 1) way = none) := by
          unfold Hid
          rw [HDF.out, HC2.out]
          exact fs_miss (by rw [HMM.out]; exact HDN.out)
        have HGR := Lib.hid ((grown_below HB2.out (some g)).trans HG.out)
        go_wp2
        go_ret
        unfold WayPost
        rw [HN.out]
        exact ⟨.slice none 0 0, rfl, fun L' h => by (rw [HR6.out] at h; cases h), fun _ => rfl, HGR.out, HOW.out⟩
end Go.Proofs.Ytajeledbmnndmaa

namespace Go.Proofs.Ytajeledbmnndmaa
open Go.RowKit Go.Sort
set_option maxRecDepth 100000

def toQ (p : Nat → Nat → Bool) (a b : Nat) : Bool := !(a == b) && p a b
def toL (p : Nat → Nat → Bool) (n : Nat) : List Int := (List.range n).map fun a => ((setOf (toQ p a) n : Nat) : Int)
theorem toL_len (p : Nat → Nat → Bool) (n : Nat) : (toL p n).length = n := by simp [toL]
/-- the rows that grow -/
def toRow (p : Nat → Nat → Bool) (N : List Int) (n a j : Nat) : Prop := ∀ i, i < n → N.getD i 0 = if i < a then ((setOf (toQ p i) n : Nat) : Int) else if i = a then ((setOf (toQ p a) j : Nat) : Int) else 0
theorem toRow_start {p : Nat → Nat → Bool} {n : Nat} : toRow p (List.replicate n 0) n 0 0 := fun i hi => by
  have : (List.replicate n (0 : Int)).getD i 0 = 0 := by simp [hi]
  rw [this]; simp [setOf]
theorem toRow_next {p : Nat → Nat → Bool} {N : List Int} {n a : Nat} (h : toRow p N n a n) : toRow p N n (a + 1) 0 := fun i hi => by
  rw [h i hi]
  by_cases h1 : i < a
  · rw [if_pos h1, if_pos (by omega)]
  · rw [if_neg h1]
    by_cases h2 : i = a
    · subst h2; rw [if_pos rfl, if_pos (by omega)]
    · rw [if_neg h2, if_neg (by omega)]; simp [setOf]
theorem toRow_no {p : Nat → Nat → Bool} {N : List Int} {n a j : Nat} (h : toRow p N n a j) (hq : toQ p a j = false) : toRow p N n a (j + 1) := fun i hi => by
  rw [h i hi]
  simp [setOf, hq]
theorem toRow_at {p : Nat → Nat → Bool} {N : List Int} {n a j : Nat} (h : toRow p N n a j) (ha : a < n) : N.getD a 0 = ((setOf (toQ p a) j : Nat) : Int) := by
  rw [h a ha, if_neg (by omega), if_pos rfl]
theorem setOf_or {q : Nat → Bool} {j : Nat} (hj : j ≤ 60) (hq : q j = true) : setOf q j ||| 2 ^ j = setOf q (j + 1) := by
  have h1 := setOf_lt q j
  have h2 : (setOf q j).testBit j = false := Nat.testBit_lt_two_pow h1
  have h3 : setOf q j < 2 ^ 62 := Nat.lt_of_lt_of_le h1 (Nat.pow_le_pow_right (by decide) (by omega))
  rw [← add_or h3 (by omega) h2]
  simp [setOf, hq]
theorem toRow_yes {p : Nat → Nat → Bool} {N : List Int} {n a j : Nat} {v : Nat} (hl : N.length = n) (h : toRow p N n a j) (ha : a < n) (hv : v = setOf (toQ p a) (j + 1)) : toRow p (N.set a v) n a (j + 1) := fun i hi => by
  by_cases h2 : i = a
  · subst h2
    rw [getD_set_same _ (by omega), if_neg (by omega), if_pos rfl, hv]
  · rw [getD_set_other _ (Ne.symm h2), h i hi, if_neg h2, if_neg h2]
theorem toRow_end {p : Nat → Nat → Bool} {N : List Int} {n : Nat} (hl : N.length = n) (h : toRow p N n n 0) : N = toL p n :=
  list_ext0 hl (toL_len p n) fun i hi => by
    rw [h i hi, if_pos hi]
    simp [toL, hi]
set_option maxHeartbeats 4000000 in
theorem tourOf_any (n : Nat) (hn1 : 1 ≤ n) (hn : n ≤ 8) (F : FuncId) (caps : Array Value) (hE : Enters F) (p : Nat → Nat → Bool) (w : World)
    (hf : ∀ a b, a < n → b < n → ∀ w', Below w.heap.size w w' → Calls Try.prog F (#[.int .i64 a, .int .i64 b] ++ caps) w' fun e w'' => e = .returned (.bool (p a b)) ∧ Below w'.heap.size w' w'') :
    Calls Try.prog 103 #[.int .i64 n, .func (.func F) #[] caps] w fun e w' => ∃ sl', e = .returned (.agg #[.int .i64 n, sl']) ∧ Own w' w.heap.size sl' (toL p n) ∧ Below w.heap.size w w' := by
  obtain ⟨i0, hi, hz0, hz1, hz2⟩ := info_parts i64_info
  have HF := Lib.hid hf
  clear hf
  have hE' : ∀ (args : Array Value) (W : World), (callFunc F args).run Try.prog W = .ok (.enter F args) W := hE
  have hT0 := BoxF.new w 0 (.slice none 0 0) 28
  have HT0 := Lib.hid hT0
  have HB0 := Lib.hid (below_alloc1 w (.cells #[.int .i64 0, .slice none 0 0] 28))
  clear hT0
  go_enter Try.func103, Try.ntmps103
  go_wp2_with (at_make; refine wpList_make_full _ rfl _ _ 22 rfl (w.alloc (.cells #[.int .i64 0, .slice none 0 0] 28)).heap.size 3 i0 (.int .i64 0) 1 Try.underlying22 hi hz0 hz1 _ _ _ _ n rfl rfl rfl rfl (by rw [hz2]; omega) (by unfold maxLen; omega) (Nat.le_refl _) ?_; intro w1 hown hg1; have hb1 : Below (w.alloc (.cells #[.int .i64 0, .slice none 0 0] 28)).heap.size (w.alloc (.cells #[.int .i64 0, .slice none 0 0] 28)) w1 := (Below.refl _ _).grown hg1 (Nat.le_refl _) (by simp); have HT1 := Lib.hid (HT0.out.below hb1); have HB1 := Lib.hid (Below.then HB0.out hb1); have HOWN := Lib.hid hown; have hsz1 := hb1.size; clear hown hg1 hb1)
  simp only [World.size_alloc] at HOWN hsz1
  have hgl := (World.ownsRow.lt HOWN.out (w.heap.size + 1) rfl).2
  have bU := below_alloc1 w1 (.cells #[.int .i64 n, .slice (some ⟨w.heap.size + 1, 0, none⟩) n n] 28)
  have HU2 := Lib.hid (BoxF.new w1 n (.slice (some ⟨w.heap.size + 1, 0, none⟩) n n) 28)
  have HT2 := Lib.hid (HT1.out.below bU)
  have HB2 := Lib.hid (Below.then HB1.out bU)
  have HO2 : Hid (Own (w1.alloc (.cells #[.int .i64 n, .slice (some ⟨w.heap.size + 1, 0, none⟩) n n] 28)) (w.heap.size + 1) (.slice (some ⟨w.heap.size + 1, 0, none⟩) n n) (List.replicate n 0)) := by
    have ho := HOWN.out
    rw [ints_made'] at ho
    refine Own.below (w := w1) ?_ bU
    unfold Own
    rw [List.length_replicate]
    exact ho
  generalize w1.alloc (.cells #[.int .i64 n, .slice (some ⟨w.heap.size + 1, 0, none⟩) n n] 28) = w2 at *
  generalize hgt : w1.heap.size = gt at *
  generalize hgl' : w.heap.size + 1 = gl at *
  have HG : Hid (gl = w.heap.size + 1) := hgl'.symm
  clear bU HOWN HT1 HB1 HT0 HB0 hgt hgl'
  have hgg : gl < gt := by omega
  go_loopw [13] (fun i wr => ∃ (a : Nat) (N : List Int), a ≤ n ∧ i = .int .i64 a ∧ N.length = n ∧ Own wr gl (.slice (some ⟨gl, 0, none⟩) n n) N ∧ Hid (toRow p N n a 0) ∧ BoxF wr gt n (.slice (some ⟨gl, 0, none⟩) n n) ∧ BoxF wr w.heap.size 0 (.slice none 0 0) ∧ Below w.heap.size w wr) (fun i _ => n - (intOf i).toNat)
  case atStart => exact ⟨0, _, by omega, rfl, by simp, HO2.out, toRow_start, HU2.out, HT2.out, HB2.out⟩
  case round =>
    obtain ⟨wa, rfl⟩ : ∃ x, x = wr := ⟨_, rfl⟩
    obtain ⟨a, N, ha, rfl, hNl, hown, HP, hu, ht, hb⟩ := hrel
    have HOa := Lib.hid hown
    have HUa := Lib.hid hu
    have HTa := Lib.hid ht
    have HBa := Lib.hid hb
    clear hown hu ht hb
    by_cases hlta : a < n
    · go_wp2
      go_loopw [17] (fun i wr => ∃ (b : Nat) (N : List Int), b ≤ n ∧ i = .int .i64 b ∧ N.length = n ∧ Own wr gl (.slice (some ⟨gl, 0, none⟩) n n) N ∧ Hid (toRow p N n a b) ∧ BoxF wr gt n (.slice (some ⟨gl, 0, none⟩) n n) ∧ BoxF wr w.heap.size 0 (.slice none 0 0) ∧ Below w.heap.size w wr) (fun i _ => n - (intOf i).toNat)
      case atStart => exact ⟨0, N, by omega, rfl, hNl, HOa.out, HP, HUa.out, HTa.out, HBa.out⟩
      case round =>
        obtain ⟨b, M, hbn, rfl, hMl, hown, HP2, hu, ht, hb⟩ := hrel
        have HO := Lib.hid hown
        have HU := Lib.hid hu
        have HT := Lib.hid ht
        have HB := Lib.hid hb
        clear hown hu ht hb
        by_cases hltb : b < n
        · by_cases hab : a = b
          · subst hab
            have hq : toQ p a a = false := by simp [toQ]
            have HR := Lib.hid (toRow_no HP2.out hq)
            have hne : ((a : Int) != (a : Int)) = false := by simp
            go_wp2
            go_roundw
            case rel => exact ⟨a + 1, M, by omega, by go_num, hMl, HO.out, HR.out, HU.out, HT.out, HB.out⟩
            case measure => simp [intOf]; omega
          · have hne : ((a : Int) != (b : Int)) = true := by simp; omega
            go_wp2_with fail
            refine (HF.out a b hlta hltb _ HB.out).mono ?_
            rintro e w5 ⟨rfl, hb5⟩
            have HO5 := Lib.hid (HO.out.below hb5)
            have HU5 := Lib.hid (HU.out.below hb5)
            have HT5 := Lib.hid (HT.out.below hb5)
            have HB5 := Lib.hid (Below.then HB.out hb5)
            clear hb5 HO HU HT HB
            rcases hq1 : p a b with _ | _
            · have hq : toQ p a b = false := by simp [toQ, hq1]
              have HR := Lib.hid (toRow_no HP2.out hq)
              go_wp2
              go_roundw
              case rel => exact ⟨b + 1, M, by omega, by go_num, hMl, HO5.out, HR.out, HU5.out, HT5.out, HB5.out⟩
              case measure => simp [intOf]; omega
            · have hq : toQ p a b = true := by simp [toQ, hq1, hab]
              have za := (HO5.out.at1 hMl (by omega)).1 a hlta
              rw [toRow_at HP2.out hlta] at za
              have hS := setOf_small (toQ p a) (show b ≤ 8 by omega)
              have HS := Lib.hid (setOf_or (j := b) (by omega) hq)
              have hor := or_shl (setOf (toQ p a) b) b (by omega) (by omega)
              have hS2 := setOf_small (toQ p a) (show b + 1 ≤ 8 by omega)
              rw [HS.out] at hor
              generalize hX : setOf (toQ p a) (b + 1) = X at *
              have HX := Lib.hid hX
              generalize setOf (toQ p a) b = S at *
              go_wp2_with fail
              have c1 := cell_regrown HU5.out.1.2
              have c2 := cell_regrown za
              clear za hX hq hq1
              refine wp_region_below_tail 9 (by kernel_rfl) (by kernel_rfl) ?_
              simp only [List.take_succ_cons, List.take_zero, List.drop_succ_cons, List.drop_zero]
              repeat (go_big_quiet_step (first | (with_reducible fail)))
              refine wpQuiet_nil ?_
              intro wq hbq0
              have hbq := Lib.hid hbq0
              clear hbq0
              clear c1 c2 hor
              have O2 := HO5.out.below hbq.out
              obtain ⟨hx2, hf2⟩ := O2.at1 hMl (by omega)
              have za := hx2 a hlta
              have fa := hf2 a
              have O3 := (O2.set_ hMl a (X : Int)).1
              have HO3 := Lib.hid O3
              have HU3 := Lib.hid ((HU5.out.below hbq.out).kept (setCell_grown _ ⟨gl, a, none⟩ (.int .i64 X)) (by simp; omega))
              have HT3 := Lib.hid ((HT5.out.below hbq.out).kept (setCell_grown _ ⟨gl, a, none⟩ (.int .i64 X)) (by have := HG.out; simp; omega))
              have HB3 := Lib.hid ((Below.then HB5.out hbq.out).setCell (p := ⟨gl, a, none⟩) (show w.heap.size ≤ gl by have := HG.out; omega) (.int .i64 X))
              clear hx2 hf2 O2 O3 HO5 HU5 HT5 HB5 hbq
              go_wp2
              go_roundw
              case rel => exact ⟨b + 1, M.set a X, by omega, by go_num, by simp [hMl], HO3.out, toRow_yes hMl HP2.out hlta HX.out.symm, HU3.out, HT3.out, HB3.out⟩
              case measure => simp [intOf]; omega
        · obtain rfl : n = b := by omega
          have HR := Lib.hid (toRow_next HP2.out)
          go_wp2
          go_roundw
          case rel => exact ⟨a + 1, M, by omega, by go_num, hMl, HO.out, HR.out, HU.out, HT.out, HB.out⟩
          case measure => simp [intOf]; omega
    · obtain rfl : n = a := by omega
      have HE := Lib.hid (toRow_end hNl HP.out)
      have u0 := HUa.out.1.1
      have u1 := HUa.out.1.2
      have v0 := HTa.out.1.1
      have v1 := HTa.out.1.2
      have f0 := HTa.out.2 0
      have f1 := HTa.out.2 1
      have hw2 := HUa.out.gt
      have hgg2 : gt ≠ w.heap.size := by have := HG.out; omega
      have hgg3 : w.heap.size < gl := by have := HG.out; omega
      have HOx := Lib.hid ((HOa.out.kept (setCell_grown _ ⟨w.heap.size, 0, none⟩ (.int .i64 n)) (own_ne (fun k hk => (HOa.out.lt k hk).1) hgg3)).kept (setCell_grown _ ⟨w.heap.size, 1, none⟩ (.slice (some ⟨gl, 0, none⟩) n n)) (own_ne (fun k hk => (HOa.out.lt k hk).1) hgg3))
      have HBx := Lib.hid ((HBa.out.setCell (p := ⟨w.heap.size, 0, none⟩) (Nat.le_refl _) (.int .i64 n)).setCell (p := ⟨w.heap.size, 1, none⟩) (Nat.le_refl _) (.slice (some ⟨gl, 0, none⟩) n n))
      have R0 : Hid (((wa.setCell ⟨w.heap.size, 0, none⟩ (.int .i64 n)).setCell ⟨w.heap.size, 1, none⟩ (.slice (some ⟨gl, 0, none⟩) n n)).cell? ⟨w.heap.size, 0, none⟩ = some (.int .i64 n)) := (World.cell?_setCell_other _ _ _ _ (by simp)).trans (World.cell?_setCell_same _ _ _ v0)
      have R1 : Hid (((wa.setCell ⟨w.heap.size, 0, none⟩ (.int .i64 n)).setCell ⟨w.heap.size, 1, none⟩ (.slice (some ⟨gl, 0, none⟩) n n)).cell? ⟨w.heap.size, 1, none⟩ = some (.slice (some ⟨gl, 0, none⟩) n n)) := World.cell?_setCell_same _ _ _ ((World.cell?_setCell_other _ _ _ _ (by simp)).trans v1)
      go_wp2
      have r0 := R0.out
      have r1 := R1.out
      refine bodyPost_ret (v := .agg #[.int .i64 n, .slice (some ⟨gl, 0, none⟩) n n]) (by simp only [results, Try.results103]; simp [go_sem, r0, r1]) rfl ⟨_, rfl, ?_, HBx.out⟩
      rw [← HE.out]
      exact HOx.out.mono (by omega)
end Go.Proofs.Ytajeledbmnndmaa

namespace Go.Proofs.Ytajeledbmnndmaa
open Go.RowKit

def findIR (p : R4 → Bool) (xs : List R4) : Int := match xs.findIdx? p with | some k => (k : Int) | none => -1

theorem findI_anyR (p : R4 → Bool) (xs : List R4) : decide (0 ≤ findIR p xs) = xs.any p := by
  unfold findIR
  rcases h : xs.findIdx? p with _ | k
  · rw [List.findIdx?_eq_none_iff] at h
    have : xs.any p = false := by simpa using h
    rw [this]; rfl
  · have hh := List.findIdx?_eq_some_iff_getElem.1 h
    obtain ⟨hl, hp, _⟩ := hh
    have : xs.any p = true := by rw [List.any_eq_true]; exact ⟨_, List.getElem_mem hl, hp⟩
    rw [this]; simp
theorem findI_missR {p : R4 → Bool} {xs : List R4} (h : ∀ x ∈ xs, p x = false) : findIR p xs = -1 := by
  unfold findIR
  have : xs.findIdx? p = none := by rw [List.findIdx?_eq_none_iff]; simpa using h
  rw [this]
theorem findI_hitR {p : R4 → Bool} {xs : List R4} {k : Nat} (hk : k < xs.length) (hp : p (r4At xs k) = true) (h : ∀ x ∈ xs.take k, p x = false) : findIR p xs = k := by
  unfold findIR
  have e : r4At xs k = xs[k] := by simp [r4At, hk]
  rw [e] at hp
  have : xs.findIdx? p = some k := by
    rw [List.findIdx?_eq_some_iff_getElem]
    refine ⟨hk, hp, fun j hj => ?_⟩
    have := h xs[j] (by
      rw [List.mem_iff_getElem?]
      exact ⟨j, by rw [List.getElem?_take, if_pos hj, List.getElem?_eq_getElem]⟩)
    simp [this]
  rw [this]
theorem findI_stepR {p : R4 → Bool} {xs : List R4} {k : Nat} (hk : k < xs.length) (hp : p (r4At xs k) = false) (h : ∀ x ∈ xs.take k, p x = false) : ∀ x ∈ xs.take (k + 1), p x = false := by
  rw [List.take_succ_eq_append_getElem hk]
  have e : r4At xs k = xs[k] := by simp [r4At, hk]
  rw [e] at hp
  intro x hx
  rw [List.mem_append, List.mem_singleton] at hx
  rcases hx with hx | rfl
  · exact h x hx
  · exact hp

end Go.Proofs.Ytajeledbmnndmaa

namespace Go.Proofs.Ytajeledbmnndmaa
open Go.RowKit Go.Sort

/-- what is asked of a result in a league of s clubs -/
def resB (s : Int) (r : R4) : Bool := inB r.1 0 (s - 1) && (inB r.2.1 0 (s - 1) && (!(r.1 == r.2.1) && (inB r.2.2.1 0 99 && inB r.2.2.2 0 99)))
def leagueB (s : Int) (rs : List R4) : Bool := inB s 2 8 && (decide (rs.length ≤ 60) && rs.all (resB s))
theorem leagueB_true {s : Int} {rs : List R4} : leagueB s rs = true ↔ (2 ≤ s ∧ s ≤ 8) ∧ rs.length ≤ 60 ∧ ∀ r ∈ rs, resB s r = true := by
  simp [leagueB, inB_true]
theorem resB_true {s : Int} {r : R4} : resB s r = true ↔ (0 ≤ r.1 ∧ r.1 ≤ s - 1) ∧ (0 ≤ r.2.1 ∧ r.2.1 ≤ s - 1) ∧ r.1 ≠ r.2.1 ∧ (0 ≤ r.2.2.1 ∧ r.2.2.1 ≤ 99) ∧ (0 ≤ r.2.2.2 ∧ r.2.2.2 ≤ 99) := by
  simp [resB, inB_true]

end Go.Proofs.Ytajeledbmnndmaa

namespace Go.Proofs.Ytajeledbmnndmaa
open Go.RowKit Go.Sort
set_option maxRecDepth 100000
def cwA (xs : List Int) (a : Nat) (way : List Nat) : Bool := (winsN xs (lastN way)).testBit a
noncomputable def cycOk (s : Int) (xs : List Int) (a k : Int) : Bool := tourB s xs && inB a 0 (s - 1) && inB k 3 s
noncomputable def cycO (s : Int) (xs : List Int) (a k : Int) : Option (List Nat) := if cycOk s xs a k = true then dfs xs xs.length (cwA xs a.toNat) (k.toNat - 1) [a.toNat] else none
noncomputable def cycL (s : Int) (xs : List Int) (a k : Int) : List Int := nI ((cycO s xs a k).getD [])
theorem cycO_no {s : Int} {xs : List Int} {a k : Int} (h : cycOk s xs a k = false) : cycO s xs a k = none := by simp [cycO, h]
theorem cycL_len (s : Int) (xs : List Int) (a k : Int) : (cycL s xs a k).length ≤ 8 := by
  unfold cycL
  rw [nI_len]
  unfold cycO
  split
  · rename_i h
    rcases q : dfs xs xs.length (cwA xs a.toNat) (k.toNat - 1) [a.toNat] with _ | L
    · simp
    · have h1 := dfs_len q
      unfold cycOk at h
      rw [Bool.and_eq_true, Bool.and_eq_true] at h
      have h2 := (tourB_true.1 h.1.1).1
      have h3 := inB_true.1 h.2
      simp at h1 ⊢
      omega
  · simp
set_option maxHeartbeats 1000000 in
theorem cyc1_any (n : Nat) (sl : Value) (xs : List Int) (hp : tourP n xs) (way : List Nat) (v : Value) (k a : Nat) (gt ga gk : Nat) (W : World) (hr : Rd W sl xs) (ht : TBox W gt n sl) (ck : W.cell? ⟨gk, 0, none⟩ = some (.int .i64 k)) (ca : W.cell? ⟨ga, 0, none⟩ = some (.int .i64 a))
    (hl : way.length = k) (hk : 1 ≤ k ∧ k ≤ 8) (hx : ∀ x ∈ way, x < xs.length) (ha : a < xs.length) (h : Rd W v (nI way)) :
    Calls Try.prog 95 #[v, .pointer (some ⟨gt, 0, none⟩), .pointer (some ⟨gk, 0, none⟩), .pointer (some ⟨ga, 0, none⟩)] W fun e w' => e = .returned (.bool (cwA xs a way)) ∧ Below W.heap.size W w' := by
  have hs := hp.1
  have hsl := hp.2.1
  obtain ⟨A, c, rfl, hlc, hm, hc⟩ := h
  rw [nI_len, hl] at hlc hc
  rw [nI_len, hl]
  unfold maxLen at hm
  obtain ⟨p, hpk⟩ : ∃ p, k = p + 1 := ⟨k - 1, by omega⟩
  obtain ⟨g, off, rfl, hg, hcell⟩ := hc (by omega)
  have hlast := hcell p (by omega)
  rw [nI_getD (by omega)] at hlast
  have hlw : lastN way = way.getD p 0 := by unfold lastN; rw [hl, hpk]; rfl
  have hlt : way.getD p 0 < xs.length := hx _ (by rw [getD_nat (by omega)]; exact List.getElem_mem _)
  have hF : Hid (cwA xs a way = bitI (xs.getD (way.getD p 0) 0) a) := by unfold Hid cwA; rw [hlw]; exact (bit_nat hp hlt).symm
  have k1 := quiet_below (w := W) (fun W' hW => beats_any n sl xs (way.getD p 0 : Nat) a W' (hr.below hW) (by omega) (by omega) (by omega) (by omega))
  rw [Int.toNat_natCast, Int.toNat_natCast] at k1
  have hidx : IntKind.i64.wrap ((k : Int) - 1) = p := by rw [show (k : Int) - 1 = p by omega]; rw [IntKind.wrap_i64]; omega
  have i1 : (0 : Int) ≤ p := by omega
  have i2 : (p : Int) < k := by omega
  have i3 : p < k := by omega
  generalize way.getD p 0 = last at *
  have d1 := cell_regrown ht.1
  have d2 := cell_regrown ht.2
  have d3 := cell_regrown ck
  have d4 := cell_regrown ca
  have d5 := cell_regrown hlast
  clear ck ca hlast ht hcell hc hr hx hl hpk
  go_enter Try.func95, Try.ntmps95
  go_wp2_with fail
  refine wp_region_below (by kernel_rfl) (by kernel_rfl) ?_
  repeat (go_big_quiet_step (first | (with_reducible exact k1 _ _)))
  refine wpQuiet_nil ?_
  intro wq hbq0
  have HBQ := Lib.hid hbq0
  clear hbq0 d1 d2 d3 d4 d5 k1
  go_wp2
  go_ret
  exact ⟨ret_bool hF.out.symm, HBQ.out⟩
theorem enters_cyc1 : Enters 95 := fun _ _ => by kernel_rfl
set_option maxHeartbeats 2000000 in
theorem implCycle (s : Int) (sl : Value) (xs : List Int) (a k : Int) (w : World) (h : Rd w sl xs) :
    Calls Try.prog 38 #[.agg #[.int .i64 s, sl], .int .i64 a, .int .i64 k] w fun e w' => ∃ v', e = .returned (.tuple #[v', .bool (cycO s xs a k).isSome]) ∧ Own w' w.heap.size v' (cycL s xs a k) ∧ Below w.heap.size w w' := by
  have HR := Lib.hid h
  obtain ⟨A, c, rfl, -, -, -⟩ := h
  have b3 := ((below_alloc1 w (.cells #[.int .i64 s, .slice A xs.length c] 28)).alloc (by simp) (.cells #[.int .i64 a] 3)).alloc (by simp; omega) (.cells #[.int .i64 k] 3)
  have t0 := ((TBox.new w s (.slice A xs.length c) 28).below (below_alloc1 _ (.cells #[.int .i64 a] 3))).below (below_alloc1 _ (.cells #[.int .i64 k] 3))
  have c1 : (((w.alloc (.cells #[.int .i64 s, .slice A xs.length c] 28)).alloc (.cells #[.int .i64 a] 3)).alloc (.cells #[.int .i64 k] 3)).cell? ⟨w.heap.size + 1, 0, none⟩ = some (.int .i64 a) := by
    rw [World.cell?_alloc_lt _ _ _ (by simp)]; simp
  have c2 : (((w.alloc (.cells #[.int .i64 s, .slice A xs.length c] 28)).alloc (.cells #[.int .i64 a] 3)).alloc (.cells #[.int .i64 k] 3)).cell? ⟨w.heap.size + 1 + 1, 0, none⟩ = some (.int .i64 k) := by
    have := cell_new1 ((w.alloc (.cells #[.int .i64 s, .slice A xs.length c] 28)).alloc (.cells #[.int .i64 a] 3)) (.int .i64 k) 3
    simpa only [World.size_alloc] using this
  have HB0 := Lib.hid b3
  have HT0 := Lib.hid t0
  have C1 := Lib.hid c1
  have C2 := Lib.hid c2
  clear b3 t0 c1 c2
  have qT : ∀ (w : World) (a : Option Addr) (n c n' c' : Nat), (binOp .neq 22 (.slice a n c) (.slice none n' c')).run Try.prog w = .ok (.bool (!a.isNone)) w := fun w a n c n' c' => run_neq_slice_nil w _ _ a n c n' c' Try.underlying22
  rcases q0 : tourB s xs with _ | _
  · have hno := cycO_no (show cycOk s xs a k = false by simp [cycOk, q0])
    rw [cycL, hno]
    go_enter Try.func38, Try.ntmps38
    go_wp2_with fail
    generalize (((w.alloc (.cells #[.int .i64 s, .slice A xs.length c] 28)).alloc (.cells #[.int .i64 a] 3)).alloc (.cells #[.int .i64 k] 3)) = w0 at *
    have y0 := HT0.out.1
    have y1 := HT0.out.2
    go_wp2_with fail
    refine (implTourOk s _ xs _ (HR.out.below HB0.out)).mono ?_
    rintro e w1 ⟨rfl, hb⟩
    rw [q0]
    have HB1 := Lib.hid (Below.then HB0.out hb)
    go_wp2
    go_ret2
    exact ⟨.slice none 0 0, rfl, Own.nil_ _ _, HB1.out⟩
  have hp := tourB_true.1 q0
  have hs := hp.1
  have hsl := hp.2.1
  rcases q1 : inB a 0 (s - 1) with _ | _
  · have hno := cycO_no (show cycOk s xs a k = false by simp [cycOk, q1])
    rw [cycL, hno]
    go_enter Try.func38, Try.ntmps38
    go_wp2_with fail
    generalize (((w.alloc (.cells #[.int .i64 s, .slice A xs.length c] 28)).alloc (.cells #[.int .i64 a] 3)).alloc (.cells #[.int .i64 k] 3)) = w0 at *
    have y0 := HT0.out.1
    have y1 := HT0.out.2
    go_wp2_with fail
    refine (implTourOk s _ xs _ (HR.out.below HB0.out)).mono ?_
    rintro e w1 ⟨rfl, hb⟩
    rw [q0]
    have HB1 := Lib.hid (Below.then HB0.out hb)
    have HT1 := Lib.hid (HT0.out.below hb)
    have ca := (hb.cell (World.block_lt_of_cell? _ _ C1.out)).trans C1.out
    clear y0 y1
    have y0 := HT1.out.1
    have y1 := HT1.out.2
    go_wp2_with fail
    refine (has_any s _ a _ (by omega)).mono ?_
    rintro e w2 ⟨rfl, hb2⟩
    rw [q1]
    have HB2 := Lib.hid (Below.then HB1.out hb2)
    go_wp2
    go_ret2
    exact ⟨.slice none 0 0, rfl, Own.nil_ _ _, HB2.out⟩
  have ha := inB_true.1 q1
  obtain ⟨i, rfl⟩ := Int.eq_ofNat_of_zero_le ha.1
  rcases q2 : inB k 3 s with _ | _
  all_goals
    go_enter Try.func38, Try.ntmps38
    go_wp2_with fail
    generalize (((w.alloc (.cells #[.int .i64 s, .slice A xs.length c] 28)).alloc (.cells #[.int .i64 i] 3)).alloc (.cells #[.int .i64 k] 3)) = w0 at *
    have y0 := HT0.out.1
    have y1 := HT0.out.2
    go_wp2_with fail
    refine (implTourOk s _ xs _ (HR.out.below HB0.out)).mono ?_
    rintro e w1 ⟨rfl, hb⟩
    rw [q0]
    have HB1 := Lib.hid (Below.then HB0.out hb)
    have HT1 := Lib.hid (HT0.out.below hb)
    have C11 := Lib.hid ((hb.cell (World.block_lt_of_cell? _ _ C1.out)).trans C1.out)
    have C21 := Lib.hid ((hb.cell (World.block_lt_of_cell? _ _ C2.out)).trans C2.out)
    clear y0 y1 hb
    have y0 := HT1.out.1
    have y1 := HT1.out.2
    have ca := C11.out
    go_wp2_with fail
    refine (has_any s _ i _ (by omega)).mono ?_
    rintro e w2 ⟨rfl, hb2⟩
    rw [q1]
    have HB2 := Lib.hid (Below.then HB1.out hb2)
    have HT2 := Lib.hid (HT1.out.below hb2)
    have C12 := Lib.hid ((hb2.cell (World.block_lt_of_cell? _ _ C11.out)).trans C11.out)
    have C22 := Lib.hid ((hb2.cell (World.block_lt_of_cell? _ _ C21.out)).trans C21.out)
    clear y0 y1 ca hb2 HB0 HB1 HT0 HT1 C1 C2 C11 C21
    have y0 := HT2.out.1
    have y1 := HT2.out.2
    have ca := C12.out
    have ck := C22.out
    go_wp2_with fail
    refine (within_any _ _ _ _).mono ?_
    rintro e wz ⟨rfl, rfl⟩
    rw [q2]
  · have hno := cycO_no (show cycOk s xs i k = false by simp [cycOk, q2])
    go_wp2
    go_ret2
    exact ⟨.slice none 0 0, by rw [hno]; rfl, by rw [cycL, hno]; exact Own.nil_ _ _, HB2.out⟩
  · have hk := inB_true.1 q2
    obtain ⟨q, rfl⟩ := Int.eq_ofNat_of_zero_le (show 0 ≤ k by omega)
    have hO : Hid (cycO s xs i q = dfs xs xs.length (cwA xs i) (q - 1) [i]) := by unfold Hid cycO cycOk; rw [q0, q1, q2]; rfl
    obtain ⟨n, rfl⟩ := Int.eq_ofNat_of_zero_le (show 0 ≤ s by omega)
    have hin : i < xs.length := by omega
    have HW : WantP 95 #[.pointer (some ⟨w.heap.size, 0, none⟩), .pointer (some ⟨w.heap.size + 1 + 1, 0, none⟩), .pointer (some ⟨w.heap.size + 1, 0, none⟩)] (cwA xs i) q xs.length w2 := fun way v W hl hx hB hr =>
      cyc1_any n _ xs hp way v q i _ _ _ W ((HR.out.below HB2.out).below hB) (HT2.out.below hB) ((hB.cell (World.block_lt_of_cell? _ _ C22.out)).trans C22.out) ((hB.cell (World.block_lt_of_cell? _ _ C12.out)).trans C12.out) hl (by omega) hx hin hr
    have HRD := Lib.hid (HR.out.below HB2.out)
    have HWW := Lib.hid HW
    have HOL := Lib.hid (show Own (w2.alloc (.cells #[.int .i64 i] 3)) w2.heap.size (.slice (some ⟨w2.heap.size, 0, none⟩) 1 1) (nI [i]) from Own.lit w2 w2.heap.size [(i : Int)] (Nat.le_refl _) (by simp))
    have HP := Lib.hid hp
    have ck2 := ((below_alloc1 w2 (.cells #[.int .i64 i] 3)).cell (World.block_lt_of_cell? _ _ C22.out)).trans C22.out
    clear HW q0 q1 hp
    go_wp2_with fail
    refine (wayOn_any n _ xs HP.out 95 _ enters_cyc1 (cwA xs i) q w2 HRD.out HWW.out (by omega) (q - 1) [i] w2.heap.size _ _ (below_alloc1 _ _) (Nat.le_refl _) (by simp) HOL.out (by simp) (by simp; omega) (fun x hx => by simp at hx; omega)).mono ?_
    rintro e w3 ⟨v3, rfl, hs3, hn3, hg3, -⟩
    have HB3 := Lib.hid (Below.then HB2.out (below_of_grown (below_alloc1 w2 _) hg3 (fun x hx => by injection hx with hx; exact Nat.le_of_eq hx)))
    clear hg3
    rcases hd : dfs xs xs.length (cwA xs i) (q - 1) [i] with _ | L
    · have := hn3 hd
      subst this
      have HD := Lib.hid hd
      go_wp2
      go_ret2
      exact ⟨.slice none 0 0, by rw [hO.out, HD.out]; rfl, by rw [cycL, hO.out, HD.out]; exact Own.nil_ _ _, HB3.out⟩
    · obtain ⟨⟨g, c3, rfl⟩, ho⟩ := hs3 L hd
      have HO3 := Lib.hid (ho.mono (show w.heap.size ≤ _ by have := HB2.out.size; simp; omega))
      have HD := Lib.hid hd
      clear hs3 hn3 ho hd
      go_wp2
      go_ret2
      exact ⟨.slice (some ⟨g, 0, none⟩) q c3, by rw [hO.out, HD.out]; rfl, by rw [cycL, hO.out, HD.out]; exact HO3.out, HB3.out⟩
end Go.Proofs.Ytajeledbmnndmaa

namespace Go.Proofs.Ytajeledbmnndmaa
open Go.RowKit Go.Sort
set_option maxRecDepth 100000
def lvHit (xs : List Int) (n r : Nat) (f : Nat → Int) (a : Nat) : Bool := (memN (winsN xs a) n).any fun c => f c == (r : Int)
def lv (xs : List Int) (n b : Nat) : Nat → Nat → Int
  | 0, a => if a = b then 0 else -1
  | r + 1, a => if lv xs n b r a < 0 ∧ lvHit xs n r (lv xs n b r) a = true then (r : Int) + 1 else lv xs n b r a
theorem lv_succ (xs : List Int) (n b r a : Nat) : lv xs n b (r + 1) a = if lv xs n b r a < 0 ∧ lvHit xs n r (lv xs n b r) a = true then (r : Int) + 1 else lv xs n b r a := rfl
theorem lv_bd (xs : List Int) (n b : Nat) : ∀ r a, -1 ≤ lv xs n b r a ∧ lv xs n b r a ≤ r := by
  intro r
  induction r with
  | zero => intro a; simp only [lv]; split <;> omega
  | succ r ih => intro a; have := ih a; rw [lv_succ]; split <;> omega
theorem lv_keep {xs : List Int} {n b r a : Nat} (h : 0 ≤ lv xs n b r a) : ∀ d, lv xs n b (r + d) a = lv xs n b r a := by
  intro d
  induction d with
  | zero => rfl
  | succ d ih => rw [← Nat.add_assoc, lv_succ, if_neg (by rw [ih]; omega), ih]
theorem lv_keep' {xs : List Int} {n b r r' a : Nat} (h : 0 ≤ lv xs n b r a) (hr : r ≤ r') : lv xs n b r' a = lv xs n b r a := by
  obtain ⟨d, rfl⟩ := Nat.exists_eq_add_of_le hr
  exact lv_keep h d
theorem lv_at {xs : List Int} {n b : Nat} {d : Nat} : ∀ {r a : Nat}, lv xs n b r a = (d : Int) → d ≤ r ∧ lv xs n b d a = (d : Int) := by
  intro r
  induction r with
  | zero =>
    intro a h
    have := lv_bd xs n b 0 a
    have hd : d = 0 := by omega
    subst hd
    exact ⟨Nat.le_refl _, h⟩
  | succ r ih =>
    intro a h
    by_cases hc : lv xs n b r a < 0 ∧ lvHit xs n r (lv xs n b r) a = true
    · rw [lv_succ, if_pos hc] at h
      have hd : d = r + 1 := by omega
      subst hd
      exact ⟨Nat.le_refl _, by rw [lv_succ, if_pos hc]; omega⟩
    · rw [lv_succ, if_neg hc] at h
      have := ih h
      exact ⟨by omega, this.2⟩
theorem lv_zero {xs : List Int} {n b r a : Nat} (h : lv xs n b r a = 0) : a = b := by
  have := (lv_at (d := 0) h).2
  simp only [lv] at this
  split at this
  · assumption
  · omega
theorem lv_b (xs : List Int) (n b r : Nat) : lv xs n b r b = 0 := by
  have h0 : lv xs n b 0 b = 0 := by simp [lv]
  rw [lv_keep' (r := 0) (by rw [h0]; omega) (by omega), h0]
theorem lvHit_iff {xs : List Int} {n r : Nat} {f : Nat → Int} {a : Nat} : lvHit xs n r f a = true ↔ ∃ c, c ∈ memN (winsN xs a) n ∧ f c = (r : Int) := by
  unfold lvHit
  rw [List.any_eq_true]
  simp
theorem lv_pred {xs : List Int} {n b r a d : Nat} (h : lv xs n b r a = ((d + 1 : Nat) : Int)) : ∃ c, c ∈ memN (winsN xs a) n ∧ lv xs n b r c = (d : Int) := by
  obtain ⟨h1, h2⟩ := lv_at h
  rw [lv_succ] at h2
  by_cases hc : lv xs n b d a < 0 ∧ lvHit xs n d (lv xs n b d) a = true
  · obtain ⟨c, hm, hv⟩ := lvHit_iff.1 hc.2
    exact ⟨c, hm, by rw [lv_keep' (r := d) (by omega) (by omega)]; exact hv⟩
  · rw [if_neg hc] at h2
    have := (lv_bd xs n b d a).2
    omega
theorem lv_step {xs : List Int} {n b a c d : Nat} (hc : c ∈ memN (winsN xs a) n) (h : lv xs n b n c = (d : Int)) (hd : d < n) : 0 ≤ lv xs n b n a ∧ lv xs n b n a ≤ d + 1 := by
  have h2 := (lv_at h).2
  have h3 : 0 ≤ lv xs n b (d + 1) a ∧ lv xs n b (d + 1) a ≤ d + 1 := by
    have hb := lv_bd xs n b (d + 1) a
    refine ⟨?_, by omega⟩
    rw [lv_succ]
    by_cases hl : lv xs n b d a < 0
    · rw [if_pos ⟨hl, lvHit_iff.2 ⟨c, hc, h2⟩⟩]; omega
    · rw [if_neg (fun h => hl h.1)]; omega
  rw [lv_keep' (r := d + 1) h3.1 (by omega)]
  exact h3
theorem lv_chain {xs : List Int} {n b : Nat} : ∀ (d a : Nat), a < n → lv xs n b n a = (d : Int) → ∃ l : List Nat, l.length = d + 1 ∧ l.Nodup ∧ ∀ x ∈ l, x < n ∧ lv xs n b n x ≤ d := by
  intro d
  induction d with
  | zero => intro a ha h; exact ⟨[a], rfl, by simp, fun x hx => by simp at hx; subst hx; exact ⟨ha, by omega⟩⟩
  | succ d ih =>
    intro a ha h
    obtain ⟨c, hc, hv⟩ := lv_pred h
    obtain ⟨l, h1, h2, h3⟩ := ih c (mem_memN.1 hc).1 hv
    refine ⟨a :: l, by simp [h1], ?_, fun x hx => ?_⟩
    · rw [List.nodup_cons]
      exact ⟨fun hm => by have := (h3 a hm).2; omega, h2⟩
    · rw [List.mem_cons] at hx
      rcases hx with rfl | hx
      · exact ⟨ha, by omega⟩
      · have := h3 x hx; exact ⟨this.1, by omega⟩
theorem lv_top {xs : List Int} {n b a d : Nat} (ha : a < n) (h : lv xs n b n a = (d : Int)) : d < n := by
  obtain ⟨l, h1, h2, h3⟩ := lv_chain d a ha h
  have h4 := nodup_le n (nI l) (List.Pairwise.map _ (fun a b hab h => hab (by omega)) h2) (fun y hy => by
    unfold nI at hy
    rw [List.mem_map] at hy
    obtain ⟨x, hx, rfl⟩ := hy
    have := (h3 x hx).1
    omega)
  rw [nI_len] at h4
  omega
def nxt (xs : List Int) (n b : Nat) (m a : Nat) : Nat := ((memN (winsN xs a) n).find? fun c => lv xs n b n c == (m : Int)).getD 0
def gw (xs : List Int) (n b : Nat) : Nat → Nat → List Nat
  | 0, _ => []
  | m + 1, a => nxt xs n b m a :: gw xs n b m (nxt xs n b m a)
theorem gw_len (xs : List Int) (n b : Nat) : ∀ m a, (gw xs n b m a).length = m := by
  intro m
  induction m with
  | zero => intro a; rfl
  | succ m ih => intro a; simp [gw, ih]
def wB (b : Nat) (way : List Nat) : Bool := lastN way == b
theorem lastN_snoc (l : List Nat) (b : Nat) : lastN (l ++ [b]) = b := by simp [lastN]
theorem dfs_lv {xs : List Int} {n b : Nat} : ∀ m way L, m < n → way ≠ [] → dfs xs n (wB b) m way = some L → 0 ≤ lv xs n b n (lastN way) ∧ lv xs n b n (lastN way) ≤ m := by
  intro m
  induction m with
  | zero =>
    intro way L hm hw h
    rw [dfs] at h
    split at h
    · rename_i hq
      have : lastN way = b := by simpa [wB] using hq
      rw [this, lv_b]; omega
    · cases h
  | succ m ih =>
    intro way L hm hw h
    rw [dfs] at h
    obtain ⟨c, hc, hs⟩ := List.exists_of_findSome?_eq_some h
    have h2 := ih (way ++ [c]) L (by omega) (by simp) hs
    rw [lastN_snoc] at h2
    obtain ⟨e, he⟩ := Int.eq_ofNat_of_zero_le h2.1
    have h3 := lv_step ((List.mem_filter.1 hc).1) he (by omega)
    omega
theorem find_some {β : Type} {l : List Nat} {p : Nat → Bool} {F : Nat → Option β} {c : Nat} {y : β} (hf : l.find? p = some c) (h : ∀ x ∈ l, p x = false → F x = none) (hy : F c = some y) : l.findSome? F = some y := by
  induction l with
  | nil => cases hf
  | cons x l ih =>
    rcases q : p x with _ | _
    · rw [List.find?_cons, q] at hf
      rw [List.findSome?_cons, h x (by simp) q]
      exact ih hf (fun z hz => h z (by simp [hz]))
    · rw [List.find?_cons, q] at hf
      injection hf with hf
      subst hf
      rw [List.findSome?_cons, hy]
theorem nxt_find {xs : List Int} {n b m a : Nat} (h : lv xs n b n a = ((m + 1 : Nat) : Int)) : (memN (winsN xs a) n).find? (fun c => lv xs n b n c == (m : Int)) = some (nxt xs n b m a) ∧ nxt xs n b m a ∈ memN (winsN xs a) n ∧ lv xs n b n (nxt xs n b m a) = (m : Int) := by
  obtain ⟨c, hc, hv⟩ := lv_pred h
  rcases q : (memN (winsN xs a) n).find? (fun c => lv xs n b n c == (m : Int)) with _ | c0
  · rw [List.find?_eq_none] at q
    exact absurd (by simpa using hv) (q c hc)
  · have e : nxt xs n b m a = c0 := by unfold nxt; rw [q]; rfl
    have h1 := List.find?_some q
    have h2 := List.mem_of_find?_eq_some q
    rw [e]
    exact ⟨rfl, h2, by simpa using h1⟩
theorem dfs_gw {xs : List Int} {n b : Nat} : ∀ m way, m < n → way ≠ [] → lv xs n b n (lastN way) = (m : Int) → (∀ x ∈ way, (m : Int) ≤ lv xs n b n x) → dfs xs n (wB b) m way = some (way ++ gw xs n b m (lastN way)) := by
  intro m
  induction m with
  | zero =>
    intro way hm hw h ha
    have : lastN way = b := lv_zero h
    rw [dfs, if_pos (by simp [wB, this])]
    simp [gw]
  | succ m ih =>
    intro way hm hw h ha
    obtain ⟨hf, hmem, hv⟩ := nxt_find h
    have e : dfs xs n (wB b) (m + 1) way = (memN (winsN xs (lastN way)) n).findSome? fun c => if (!way.contains c) = true then dfs xs n (wB b) m (way ++ [c]) else none := by
      have : ∀ (l : List Nat) (p : Nat → Bool) (F : Nat → Option (List Nat)), (l.filter p).findSome? F = l.findSome? fun b => if p b = true then F b else none := by
        intro l p F
        induction l with
        | nil => rfl
        | cons x l ih =>
          rcases q : p x with _ | _
          · rw [List.filter_cons_of_neg (by simp [q]), ih, List.findSome?_cons]; simp [q]
          · rw [List.filter_cons_of_pos q, List.findSome?_cons, List.findSome?_cons, ih]; simp [q]
      exact this _ _ _
    rw [e]
    refine find_some hf (fun c hc hp => ?_) ?_
    · split
      · rcases q : dfs xs n (wB b) m (way ++ [c]) with _ | L
        · rfl
        · have h1 := dfs_lv m (way ++ [c]) L (by omega) (by simp) q
          rw [lastN_snoc] at h1
          obtain ⟨d, hd⟩ := Int.eq_ofNat_of_zero_le h1.1
          have h2 := lv_step hc hd (by omega)
          have : ¬ lv xs n b n c = (m : Int) := by simpa using hp
          omega
      · rfl
    · have hni : ¬ nxt xs n b m (lastN way) ∈ way := fun hm => by have := ha _ hm; omega
      rw [if_pos (by simpa using hni), ih (way ++ [nxt xs n b m (lastN way)]) (by omega) (by simp) (by rw [lastN_snoc]; exact hv) (fun x hx => by
        rw [List.mem_append, List.mem_singleton] at hx
        rcases hx with hx | rfl
        · have := ha x hx; omega
        · omega), lastN_snoc, gw, List.append_assoc]
      rfl
noncomputable def wbOk (s : Int) (xs : List Int) (a b : Int) : Bool := tourB s xs && inB a 0 (s - 1) && inB b 0 (s - 1)
noncomputable def wbO (s : Int) (xs : List Int) (a b : Int) : Option (List Nat) :=
  if wbOk s xs a b = true then (if lv xs xs.length b.toNat xs.length a.toNat < 0 then none else some (a.toNat :: gw xs xs.length b.toNat (lv xs xs.length b.toNat xs.length a.toNat).toNat a.toNat)) else none
noncomputable def wbL (s : Int) (xs : List Int) (a b : Int) : List Int := nI ((wbO s xs a b).getD [])
theorem wbO_no {s : Int} {xs : List Int} {a b : Int} (h : wbOk s xs a b = false) : wbO s xs a b = none := by simp [wbO, h]
theorem wbL_len (s : Int) (xs : List Int) (a b : Int) : (wbL s xs a b).length ≤ 16 := by
  unfold wbL
  rw [nI_len]
  unfold wbO
  split
  · rename_i h
    unfold wbOk at h
    rw [Bool.and_eq_true, Bool.and_eq_true] at h
    have hp := tourB_true.1 h.1.1
    have h2 := hp.1
    have h3 := hp.2.1
    split
    · simp
    · have := (lv_bd xs xs.length b.toNat xs.length a.toNat).2
      simp [gw_len]
      omega
  · simp
/-- the first length that leads there -/
theorem wb_hit {xs : List Int} {n a b k : Nat} {L : List Nat} (hk : k < n) (h0 : ∀ j, j < k → dfs xs n (wB b) j [a] = none) (h : dfs xs n (wB b) k [a] = some L) : lv xs n b n a = (k : Int) ∧ L = a :: gw xs n b k a := by
  have h1 := dfs_lv k [a] L hk (by simp) h
  have e : lastN [a] = a := rfl
  rw [e] at h1
  obtain ⟨d, hd⟩ := Int.eq_ofNat_of_zero_le h1.1
  have h2 := dfs_gw d [a] (by omega) (by simp) hd (fun x hx => by simp at hx; subst hx; omega)
  have hdk : d = k := by
    rcases Nat.lt_or_ge d k with h3 | h3
    · rw [h0 d h3] at h2; cases h2
    · omega
  subst hdk
  rw [h] at h2
  injection h2 with h2
  exact ⟨hd, h2⟩
theorem wb_miss {xs : List Int} {n a b : Nat} (ha : a < n) (h0 : ∀ j, j < n → dfs xs n (wB b) j [a] = none) : lv xs n b n a < 0 := by
  rcases Int.lt_or_le (lv xs n b n a) 0 with h | h
  · exact h
  · obtain ⟨d, hd⟩ := Int.eq_ofNat_of_zero_le h
    have h1 := lv_top ha hd
    have h2 := dfs_gw d [a] h1 (by simp) hd (fun x hx => by simp at hx; subst hx; omega)
    rw [h0 d h1] at h2
    cases h2
end Go.Proofs.Ytajeledbmnndmaa

namespace Go.Proofs.Ytajeledbmnndmaa
open Go.RowKit Go.Sort
set_option maxRecDepth 100000

def idxL (n : Nat) : List Int := (List.range n).map fun (a : Nat) => (a : Int)
theorem idxL_len (n : Nat) : (idxL n).length = n := by simp [idxL]
theorem idxL_at {n a : Nat} (h : a < n) : (idxL n).getD a 0 = a := by simp [idxL, h]
theorem idxL_mem {n : Nat} {x : Int} (h : x ∈ idxL n) : ∃ a : Nat, a < n ∧ x = a := by
  unfold idxL at h
  rw [List.mem_map] at h
  obtain ⟨a, ha, e⟩ := h
  exact ⟨a, List.mem_range.1 ha, e.symm⟩
set_option maxHeartbeats 2000000 in
theorem indices_any (n : Nat) (hn : n ≤ 1000) (w : World) (h1 : 1 ≤ n) :
    Calls Try.prog 144 #[.int .i64 n] w fun e w' => e = .returned (.slice (some ⟨w.heap.size, 0, none⟩) n n) ∧ Own w' w.heap.size (.slice (some ⟨w.heap.size, 0, none⟩) n n) (idxL n) ∧ Below w.heap.size w w' := by
  obtain ⟨i0, hi, hz0, hz1, hz2⟩ := info_parts i64_info
  go_enter Try.func144, Try.ntmps144
  go_wp2_with (at_make; refine wpList_make_full _ rfl _ _ 22 rfl w.heap.size 3 i0 (.int .i64 0) 1 Try.underlying22 hi hz0 hz1 _ _ _ _ n rfl rfl rfl rfl (by rw [hz2]; omega) (by unfold maxLen; omega) (Nat.le_refl _) ?_; intro w1 hown hg1; have HB1 := Lib.hid ((Below.refl w.heap.size w).grown hg1 (Nat.le_refl _) (by simp)); have HOWN := Lib.hid hown; clear hown hg1)
  have HO1 : Hid (Own w1 w.heap.size (.slice (some ⟨w.heap.size, 0, none⟩) n n) (List.replicate n 0)) := by
    have ho := HOWN.out
    rw [ints_made'] at ho
    unfold Hid Own
    rw [List.length_replicate]
    exact ho
  clear HOWN
  go_loopw [9] (fun i wr => ∃ (k : Nat) (N : List Int), k ≤ n ∧ i = .int .i64 k ∧ N.length = n ∧ Own wr w.heap.size (.slice (some ⟨w.heap.size, 0, none⟩) n n) N ∧ Hid (∀ i, i < k → N.getD i 0 = (i : Int)) ∧ Below w.heap.size w wr) (fun i _ => n - (intOf i).toNat)
  case atStart => exact ⟨0, _, by omega, rfl, by simp, HO1.out, fun i hi => absurd hi (by omega), HB1.out⟩
  case round =>
    obtain ⟨k, N, hk, rfl, hNl, ho, HP, hb⟩ := hrel
    have HO := Lib.hid ho
    have HB := Lib.hid hb
    clear ho hb
    by_cases hlt : k < n
    · obtain ⟨hx, hf⟩ := HO.out.at1 hNl (by omega)
      have zk := hx k hlt
      have fk := hf k
      have HO3 := Lib.hid (HO.out.set_ hNl k (k : Int)).1
      have HB3 := Lib.hid (HB.out.setCell (p := ⟨w.heap.size, k, none⟩) (Nat.le_refl _) (.int .i64 k))
      clear hx hf
      go_wp2
      go_roundw
      case rel =>
        refine ⟨k + 1, N.set k k, by omega, by go_num, by simp [hNl], HO3.out, fun i hi => ?_, HB3.out⟩
        by_cases hik : i = k
        · subst hik; rw [getD_set_same _ (by omega)]
        · rw [getD_set_other _ (Ne.symm hik)]; exact HP.out i (by omega)
      case measure => simp [intOf]; omega
    · obtain rfl : n = k := by omega
      have HE : Hid (N = idxL n) := list_ext0 hNl (idxL_len n) fun i hi => by rw [HP.out i hi, idxL_at hi]
      go_wp2
      go_ret
      exact ⟨rfl, by rw [← HE.out]; exact HO.out, HB.out⟩
end Go.Proofs.Ytajeledbmnndmaa

namespace Go.Proofs.Ytajeledbmnndmaa
open Go.RowKit Go.Sort
set_option maxRecDepth 100000
def bsC (xs : List Int) (x y : Int) : Int := (scK xs y.toNat : Int) - scK xs x.toNat
def ordS (xs : List Int) : List Int := sortR (fun x y => decide (bsC xs x y < 0)) (idxL xs.length)
theorem ordS_len (xs : List Int) : (ordS xs).length = xs.length := by
  have := sortR_len (fun x y => decide (bsC xs x y < 0)) (idxL xs.length) (Nat.le_refl _)
  rw [List.take_length, idxL_len] at this
  exact this
theorem ins_mem (bef : Int → Int → Bool) (S : List Int) (x y : Int) (h : y = x ∨ y ∈ S) : y ∈ insR bef S x := by
  unfold insR
  rw [List.mem_append, List.mem_cons]
  rcases h with h | h
  · exact .inr (.inl h)
  · rw [← List.take_append_drop (posR bef x S S.length) S, List.mem_append] at h
    exact h.imp id .inr
theorem sort_mem (bef : Int → Int → Bool) (L : List Int) : ∀ i, i ≤ L.length → ∀ y, y ∈ L.take i → y ∈ sortR bef (L.take i) := by
  intro i
  induction i with
  | zero => intro _ y h; simp at h
  | succ i ih =>
    intro hi y h
    rw [sortR_succ bef L (by omega)]
    have e : L.take (i + 1) = L.take i ++ [L.getD i 0] := by
      rw [List.take_succ_eq_append_getElem (by omega), show L.getD i 0 = L[i] by simp [show i < L.length by omega]]
    rw [e, List.mem_append, List.mem_singleton] at h
    refine ins_mem _ _ _ _ ?_
    rcases h with h | h
    · exact .inr (ih (by omega) y h)
    · exact .inl h
theorem posR_after {bef : Int → Int → Bool} {x : Int} {S : List Int} : ∀ {k}, k ≤ S.length → ∀ j, posR bef x S k ≤ j → j < k → bef x (S.getD j 0) = true := by
  intro k
  induction k with
  | zero => intro _ j _ h; omega
  | succ k ih =>
    intro hk j hj hjk
    rcases q : bef x (S.getD k 0) with _ | _
    · rw [posR_stop q] at hj; omega
    · rw [posR_go q] at hj
      by_cases e : j = k
      · subst e; exact q
      · exact ih (by omega) j hj (by omega)
theorem posR_before {bef : Int → Int → Bool} {x : Int} {S : List Int} : ∀ {k}, k ≤ S.length → 0 < posR bef x S k → bef x (S.getD (posR bef x S k - 1) 0) = false := by
  intro k
  induction k with
  | zero => intro _ h; simp [posR] at h
  | succ k ih =>
    intro hk h
    rcases q : bef x (S.getD k 0) with _ | _
    · rw [posR_stop q, Nat.add_sub_cancel]; exact q
    · rw [posR_go q] at h ⊢; exact ih (by omega) h
/-- the greater keys stand first -/
theorem ins_sorted {key : Int → Int} {bef : Int → Int → Bool} (hb : ∀ x y, bef x y = decide (key y < key x)) {S : List Int} {x : Int} (hS : S.Pairwise fun a b => key b ≤ key a) : (insR bef S x).Pairwise fun a b => key b ≤ key a := by
  unfold insR
  have hle := posR_le bef x S S.length
  have hS2 := hS
  rw [← List.take_append_drop (posR bef x S S.length) S, List.pairwise_append] at hS2
  have h1 : ∀ y ∈ S.drop (posR bef x S S.length), key y ≤ key x := fun y hy => by
    obtain ⟨j, hj, rfl⟩ := List.getElem_of_mem hy
    rw [List.length_drop] at hj
    have := posR_after (bef := bef) (x := x) (Nat.le_refl S.length) (posR bef x S S.length + j) (by omega) (by omega)
    rw [hb] at this
    have h2 := of_decide_eq_true this
    rw [List.getElem_drop]
    rw [show S.getD (posR bef x S S.length + j) 0 = S[posR bef x S S.length + j] by simp [show posR bef x S S.length + j < S.length by omega]] at h2
    omega
  have h2 : ∀ y ∈ S.take (posR bef x S S.length), key x ≤ key y := fun y hy => by
    rcases Nat.eq_zero_or_pos (posR bef x S S.length) with h0 | h0
    · rw [h0] at hy; simp at hy
    · have hp := posR_before (Nat.le_refl S.length) h0
      rw [hb] at hp
      have h3 := of_decide_eq_false hp
      have hlt : posR bef x S S.length - 1 < S.length := by omega
      rw [show S.getD (posR bef x S S.length - 1) 0 = S[posR bef x S S.length - 1] by simp [hlt]] at h3
      obtain ⟨j, hj, rfl⟩ := List.getElem_of_mem hy
      rw [List.length_take] at hj
      rw [List.getElem_take]
      by_cases e : j = posR bef x S S.length - 1
      · have : S[j]'(by omega) = S[posR bef x S S.length - 1] := by simp [e]
        rw [this]; omega
      · have := List.pairwise_iff_getElem.1 hS j (posR bef x S S.length - 1) (by omega) hlt (by omega)
        omega
  rw [List.pairwise_append, List.pairwise_cons]
  exact ⟨hS2.1, ⟨h1, hS2.2.1⟩, fun a ha b hb => by
    rw [List.mem_cons] at hb
    rcases hb with rfl | hb
    · exact h2 a ha
    · exact hS2.2.2 a ha b hb⟩
theorem sort_sorted {key : Int → Int} {bef : Int → Int → Bool} (hb : ∀ x y, bef x y = decide (key y < key x)) (L : List Int) : ∀ i, i ≤ L.length → (sortR bef (L.take i)).Pairwise fun a b => key b ≤ key a := by
  intro i
  induction i with
  | zero => intro _; simp [sortR]
  | succ i ih => intro hi; rw [sortR_succ bef L (by omega)]; exact ins_sorted hb (ih (by omega))
theorem ordS_facts (xs : List Int) : (∀ i, i < xs.length → ∃ a : Nat, a < xs.length ∧ (ordS xs).getD i 0 = a) ∧ (∀ a, a < xs.length → ∃ i, i < xs.length ∧ (ordS xs).getD i 0 = (a : Int)) ∧
    (∀ i j a b : Nat, i < j → j < xs.length → (ordS xs).getD i 0 = (a : Int) → (ordS xs).getD j 0 = (b : Int) → scK xs b ≤ scK xs a) := by
  have hl := ordS_len xs
  have hm : ∀ y, y ∈ idxL xs.length → y ∈ ordS xs := fun y hy => by
    have := sort_mem (fun x y => decide (bsC xs x y < 0)) (idxL xs.length) (idxL xs.length).length (Nat.le_refl _) y (by rwa [List.take_length])
    rwa [List.take_length] at this
  have hs : (ordS xs).Pairwise fun a b => (scK xs b.toNat : Int) ≤ scK xs a.toNat := by
    have := sort_sorted (key := fun a => (scK xs a.toNat : Int)) (bef := fun x y => decide (bsC xs x y < 0)) (fun x y => by rw [decide_eq_decide]; unfold bsC; omega) (idxL xs.length) (idxL xs.length).length (Nat.le_refl _)
    rwa [List.take_length] at this
  refine ⟨fun i hi => ?_, fun a ha => ?_, fun i j a b hij hj hia hjb => ?_⟩
  · have h1 : (ordS xs).getD i 0 ∈ ordS xs := getD_memI (by omega)
    have h2 : (ordS xs).getD i 0 ∈ idxL xs.length := mem_sortR (i := (idxL xs.length).length) (Nat.le_refl _) (by rw [List.take_length]; exact h1)
    exact idxL_mem h2
  · have h1 := hm (a : Int) (by unfold idxL; rw [List.mem_map]; exact ⟨a, List.mem_range.2 ha, rfl⟩)
    obtain ⟨i, hi, he⟩ := List.getElem_of_mem h1
    exact ⟨i, by omega, by simp [hi, he]⟩
  · have := List.pairwise_iff_getElem.1 hs i j (by omega) (by omega) hij
    rw [show (ordS xs)[i] = (a : Int) by rw [← hia]; simp [show i < (ordS xs).length by omega], show (ordS xs)[j] = (b : Int) by rw [← hjb]; simp [show j < (ordS xs).length by omega], Int.toNat_natCast, Int.toNat_natCast] at this
    omega
theorem scK_le (xs : List Int) (a : Nat) (h : winsN xs a < 256) : scK xs a ≤ 8 := by unfold scK; rw [pop_mem h]; exact memN_len _ _
set_option maxHeartbeats 1000000 in
theorem bs1_any (n : Nat) (sl : Value) (xs : List Int) (hp : tourP n xs) (a b gt : Nat) (W : World) (hr : Rd W sl xs) (ht : TBox W gt n sl) (ha : a < xs.length) (hb : b < xs.length) :
    Calls Try.prog 146 #[.int .i64 a, .int .i64 b, .pointer (some ⟨gt, 0, none⟩)] W fun e w' => e = .returned (.int .i64 (bsC xs a b)) ∧ Below W.heap.size W w' := by
  have k1 := quiet_below (w := W) (fun W' hW => score_any n sl xs b W' (hr.below hW) hp hb)
  have k2 := quiet_below (w := W) (fun W' hW => score_any n sl xs a W' (hr.below hW) hp ha)
  have h1 := scK_le xs a (tour_wins hp ha).2.2
  have h2 := scK_le xs b (tour_wins hp hb).2.2
  have hF : Hid (bsC xs a b = (scK xs b : Int) - scK xs a) := by unfold Hid bsC; rw [Int.toNat_natCast, Int.toNat_natCast]
  unfold scK at h1 h2 hF
  rw [hF.out]
  generalize popN 8 (winsN xs a) = sa at *
  generalize popN 8 (winsN xs b) = sb at *
  have hw : IntKind.i64.wrap ((sb : Int) - sa) = (sb : Int) - sa := by rw [IntKind.wrap_i64]; omega
  have d1 := cell_regrown ht.1
  have d2 := cell_regrown ht.2
  clear hr ht hp
  go_enter Try.func146, Try.ntmps146
  go_wp2_with fail
  refine wp_region_below (by kernel_rfl) (by kernel_rfl) ?_
  repeat (go_big_quiet_step (first | (with_reducible exact k1 _ _) | (with_reducible exact k2 _ _)))
  refine wpQuiet_nil ?_
  intro wq hbq0
  have HBQ := Lib.hid hbq0
  clear hbq0 d1 d2 k1 k2
  go_wp2
  go_ret
  exact ⟨ret_int (by first | rfl | exact hw | simp [hw]), HBQ.out⟩
set_option maxHeartbeats 2000000 in
theorem byScore_any (n : Nat) (sl : Value) (xs : List Int) (hp : tourP n xs) (w : World) (h : Rd w sl xs) :
    Calls Try.prog 133 #[.agg #[.int .i64 n, sl]] w fun e w' => ∃ v', e = .returned v' ∧ Own w' w.heap.size v' (ordS xs) ∧ Below w.heap.size w w' := by
  have hs := hp.1
  have hsl := hp.2.1
  have HR := Lib.hid h
  have HP := Lib.hid hp
  have hn : xs.length = n := by omega
  have HN := Lib.hid hn
  have hF : Hid (ordS xs = sortR (fun x y => decide (bsC xs x y < 0)) (idxL n)) := by unfold Hid ordS; rw [hn]
  have hE : Enters 146 := fun args W => by kernel_rfl
  clear h hp hn
  go_enter Try.func133, Try.ntmps133
  go_wp2_with fail
  have b0 := below_alloc1 w (.cells #[.int .i64 n, sl] 28)
  have x0 := TBox.new w n (sl) 28
  generalize w.alloc (.cells #[.int .i64 n, sl] 28) = w0 at *
  have HX0 := Lib.hid x0
  have HB0 := Lib.hid b0
  clear x0 b0
  have y0_0 := HX0.out.1
  have y1_0 := HX0.out.2
  go_wp2_with fail
  refine (indices_any n (by omega) w0 (by omega)).mono ?_
  rintro e w4 ⟨rfl, ho4, hb4⟩
  have HO4 := Lib.hid ho4
  have HB4 := Lib.hid hb4
  clear ho4 hb4
  go_wp2_with fail
  refine (sortStable_any 146 #[.pointer (some ⟨w.heap.size, 0, none⟩)] hE (bsC xs) (idxL n) n w0.heap.size w0.heap.size n w4 (idxL_len n) (by omega) (by omega) (Nat.le_refl _) (by omega) HB4.out.size HO4.out (fun x hx y hy W hW => by
    obtain ⟨a, ha, rfl⟩ := idxL_mem hx
    obtain ⟨b, hb, rfl⟩ := idxL_mem hy
    have hWW : Below w0.heap.size w0 W := HB4.out.trans hW
    exact bs1_any n sl xs HP.out a b w.heap.size W (HR.out.below (Below.then HB0.out hWW)) (HX0.out.below hWW) (by rw [HN.out]; exact ha) (by rw [HN.out]; exact hb))).mono ?_
  rintro e w5 ⟨rfl, ho5, hb5⟩
  have HO5 := Lib.hid ho5
  have HB5 := Lib.hid (HB4.out.trans hb5)
  clear ho5 hb5
  go_wp2
  go_ret
  exact ⟨_, rfl, by rw [hF.out]; exact HO5.out.mono HB0.out.size, Below.then HB0.out HB5.out⟩
end Go.Proofs.Ytajeledbmnndmaa

