/- The cursor of the laws' draws: what it gives lies in a range; which number it is does not matter. -/
import Derived.Test.YtdmneccfbfdloaaBox
import Derived.Test.YtdmneccfbfdloaaOwn0
import Derived.Test.YtdmneccfbfdloaaTourLw
import Derived.Test.YtdmneccfbfdloaaBits
import Derived.Test.YtdmneccfbfdloaaTail
namespace Go.Proofs.Ytdmneccfbfdloaa
open Go.RowKit Go.Sort
set_option maxRecDepth 100000
theorem i64_and_255 (x : Int) : ∃ n : Nat, n < 256 ∧ bits .and .i64 x 255 = (n : Int) := by
  refine ⟨(BitVec.ofInt 64 x &&& BitVec.ofInt 64 255).toNat, ?_, ?_⟩
  · rw [BitVec.toNat_and, show (BitVec.ofInt 64 255).toNat = 255 from rfl, nat_mask8]
    omega
  · have h : (BitVec.ofInt 64 x &&& BitVec.ofInt 64 255).toNat < 256 := by
      rw [BitVec.toNat_and, show (BitVec.ofInt 64 255).toNat = 255 from rfl, nat_mask8]
      omega
    show IntKind.i64.wrap ((BitVec.ofInt 64 x &&& BitVec.ofInt 64 255).toNat : Int) = _
    rw [IntKind.wrap_i64]
    omega
/-- a slice of bytes in a block below lo -/
def BytesV (w : World) (lo : Nat) (v : Value) : Prop := ∃ (A : Option Addr) (n c : Nat), v = .slice A n c ∧ n ≤ c ∧ c ≤ maxLen ∧
    (0 < n → ∃ b off, A = some ⟨b, off, none⟩ ∧ b < lo ∧ ∀ k, k < n → ∃ x : Nat, x < 256 ∧ w.cell? ⟨b, off + k, none⟩ = some (.int .u8 x))
theorem BytesV.keep {w w' : World} {lo : Nat} {v : Value} (h : BytesV w lo v) (hb : ∀ p : Addr, p.block < lo → w'.cell? p = w.cell? p) : BytesV w' lo v := by
  obtain ⟨A, n, c, rfl, h1, h2, h3⟩ := h
  refine ⟨A, n, c, rfl, h1, h2, fun h0 => ?_⟩
  obtain ⟨b, off, rfl, hlt, hc⟩ := h3 h0
  refine ⟨b, off, rfl, hlt, fun k hk => ?_⟩
  obtain ⟨x, hx, e⟩ := hc k hk
  exact ⟨x, hx, by rw [hb ⟨b, off + k, none⟩ hlt]; exact e⟩
theorem BytesV.mono {w : World} {lo hi : Nat} {v : Value} (h : BytesV w lo v) (hl : lo ≤ hi) : BytesV w hi v := by
  obtain ⟨A, n, c, rfl, h1, h2, h3⟩ := h
  refine ⟨A, n, c, rfl, h1, h2, fun h0 => ?_⟩
  obtain ⟨b, off, rfl, hlt, hc⟩ := h3 h0
  exact ⟨b, off, rfl, by omega, hc⟩
/-- the cursor in its box g, over bytes below lo -/
structure CurB (lo : Nat) (w : World) (g : Nat) (v : Value) : Prop where
  cells : ∃ (i : Nat) (h : Int), w.cell? ⟨g, 0, none⟩ = some v ∧ w.cell? ⟨g, 1, none⟩ = some (.int .i64 i) ∧ w.cell? ⟨g, 2, none⟩ = some (.int .i64 h)
  frz : ∀ k, w.frozen? ⟨g, k, none⟩ = false
  bytes : BytesV w lo v
  le : lo ≤ g
theorem CurB.lt {lo : Nat} {w : World} {g : Nat} {v : Value} (h : CurB lo w g v) : g < w.heap.size := by
  obtain ⟨i, h, e, -⟩ := h.cells
  exact World.block_lt_of_cell? w _ e
theorem CurB.kept {lo : Nat} {w w' : World} {g : Nat} {v : Value} {row : Option Nat} (h : CurB lo w g v) (hg : w.grownBy w' row) (hne : ∀ k, row = some k → lo ≤ k ∧ k ≠ g) : CurB lo w' g v := by
  have hlt := h.lt
  have hb := hg.block g hlt (fun e => (hne g e.symm).2 rfl)
  obtain ⟨i, x, e0, e1, e2⟩ := h.cells
  refine ⟨⟨i, x, (World.cell?_of_block hb).trans e0, (World.cell?_of_block hb).trans e1, (World.cell?_of_block hb).trans e2⟩, fun k => (World.frozen?_of_block hb).trans (h.frz k), h.bytes.keep fun p hp => World.cell?_of_block (hg.block p.block (by have := h.le; omega) (fun e => by have := (hne _ e.symm).1; omega)), h.le⟩
theorem CurB.below {lo : Nat} {w w' : World} {g : Nat} {v : Value} (h : CurB lo w g v) (hb : Below w.heap.size w w') : CurB lo w' g v := by
  have hlt := h.lt
  obtain ⟨i, x, e0, e1, e2⟩ := h.cells
  exact ⟨⟨i, x, (hb.cell (p := ⟨g, 0, none⟩) hlt).trans e0, (hb.cell (p := ⟨g, 1, none⟩) hlt).trans e1, (hb.cell (p := ⟨g, 2, none⟩) hlt).trans e2⟩, fun k => ((bcell hb).2 _ _ hlt).trans (h.frz k), h.bytes.keep fun p hp => hb.cell (by have := h.le; omega), h.le⟩
theorem below_cur {w w' : World} {g : Nat} (hg : w.grownBy w' (some g)) {B : Nat} (hB : B ≤ g) (hs : B ≤ w.heap.size) : Below B w w' := (Below.refl B w).grown hg hs (fun k e => by injection e with e; omega)
theorem set3 {lo : Nat} {w : World} {g : Nat} {v : Value} (h : CurB lo w g v) (k : Nat) (y : Int) (hk : k = 2 ∨ (k = 1 ∧ 0 ≤ y)) : CurB lo (w.setCell ⟨g, k, none⟩ (.int .i64 y)) g v ∧ w.grownBy (w.setCell ⟨g, k, none⟩ (.int .i64 y)) (some g) := by
  obtain ⟨i, x, e0, e1, e2⟩ := h.cells
  have hgr : w.grownBy (w.setCell ⟨g, k, none⟩ (.int .i64 y)) (some g) := setCell_grown _ ⟨g, k, none⟩ _
  refine ⟨⟨?_, fun j => by have := h.frz j; simpa [go_sem] using this, h.bytes.keep fun p hp => World.cell?_of_block (hgr.block p.block (by have := h.le; have := h.lt; omega) (fun e => by injection e with e; have := h.le; omega)), h.le⟩, hgr⟩
  rcases hk with rfl | ⟨rfl, hy⟩
  · exact ⟨i, y, (World.cell?_setCell_other _ _ _ _ (by simp)).trans e0, (World.cell?_setCell_other _ _ _ _ (by simp)).trans e1, World.cell?_setCell_same _ _ _ e2⟩
  · obtain ⟨n, rfl⟩ := Int.eq_ofNat_of_zero_le hy
    exact ⟨n, x, (World.cell?_setCell_other _ _ _ _ (by simp)).trans e0, World.cell?_setCell_same _ _ _ e1, (World.cell?_setCell_other _ _ _ _ (by simp)).trans e2⟩
set_option maxHeartbeats 4000000 in
theorem l01Byte_any (lo : Nat) (w : World) (g : Nat) (v : Value) (hc : CurB lo w g v) :
    Calls Try.prog 54 #[.pointer (some ⟨g, 0, none⟩)] w fun e w' => ∃ x : Nat, e = .returned (.int .i64 x) ∧ x < 256 ∧ CurB lo w' g v ∧ w.grownBy w' (some g) := by
  have hg := hc.lt
  have HC := Lib.hid hc
  obtain ⟨i, h, z0, z1, z2⟩ := hc.cells
  have f2 := hc.frz 2
  clear hc
  obtain ⟨h1, eh1⟩ : ∃ h1, IntKind.i64.wrap (h * 6364136223846793005) = h1 := ⟨_, rfl⟩
  obtain ⟨h2, eh2⟩ : ∃ h2, IntKind.i64.wrap (h1 + 1442695040888963407) = h2 := ⟨_, rfl⟩
  obtain ⟨C2, G2⟩ := set3 HC.out 2 h2 (.inl rfl)
  have HC2 := Lib.hid C2
  have HG2 := Lib.hid G2
  clear C2 G2 HC
  go_enter Try.func54, Try.ntmps54
  go_wp2_with fail
  have g0 : (w.setCell ⟨g, 2, none⟩ (.int .i64 h2)).cell? ⟨g, 0, none⟩ = some v := (World.cell?_setCell_other _ _ _ _ (by simp)).trans z0
  have g1 : (w.setCell ⟨g, 2, none⟩ (.int .i64 h2)).cell? ⟨g, 1, none⟩ = some (.int .i64 i) := (World.cell?_setCell_other _ _ _ _ (by simp)).trans z1
  have g2 : (w.setCell ⟨g, 2, none⟩ (.int .i64 h2)).cell? ⟨g, 2, none⟩ = some (.int .i64 h2) := World.cell?_setCell_same _ _ _ z2
  clear z0 z1 z2 f2 eh1 eh2
  generalize w.setCell ⟨g, 2, none⟩ (.int .i64 h2) = w1 at *
  have hg1 : g < w1.heap.size := HC2.out.lt
  obtain ⟨x, hx, ex⟩ := i64_and_255 (bits .xor .i64 (h2 / 8589934592) (h2 / 35184372088832))
  have c2 := cell_regrown g2
  refine wp_region_below (by kernel_rfl) (by kernel_rfl) ?_
  repeat (go_big_quiet_step (first | (with_reducible fail)))
  refine wpQuiet_nil ?_
  intro wq hbq0
  have g0' := (hbq0.cell (p := ⟨g, 0, none⟩) hg1).trans g0
  have g1' := (hbq0.cell (p := ⟨g, 1, none⟩) hg1).trans g1
  have HC3 := Lib.hid (HC2.out.below hbq0)
  have HG3 : Hid (w.grownBy wq (some g)) := Lib.hid ⟨hbq0.os.trans HG2.out.os, hbq0.tape.trans HG2.out.tape, hbq0.output.trans HG2.out.output, Nat.le_trans HG2.out.size hbq0.size, fun k hk hne => (hbq0.block k (Nat.lt_of_lt_of_le hk HG2.out.size)).trans (HG2.out.block k hk hne)⟩
  clear hbq0 c2 g0 g1 g2 ex HC2 HG2
  obtain ⟨A, n, cc, rfl, hnc, hcc, hbc⟩ := HC3.out.bytes
  unfold maxLen at hcc
  by_cases hlt : i < n
  · obtain ⟨b, off, rfl, hb, hbk⟩ := hbc (by omega)
    obtain ⟨y, hy, zy⟩ := hbk i hlt
    obtain ⟨z, hz, ez⟩ := i64_and_255 ((x : Int) + (y : Int))
    have ey : IntKind.i64.wrap (y : Int) = (y : Int) := IntWalk.i64_in _ (by omega)
    have exy : IntKind.i64.wrap ((x : Int) + (y : Int)) = (x : Int) + (y : Int) := IntWalk.i64_in _ (by omega)
    have ei : IntKind.i64.wrap ((i : Int) + 1) = (i : Int) + 1 := IntWalk.i64_in _ (by omega)
    have hlo := HC3.out.le
    have hgq := HC3.out.lt
    have hbq : b < wq.heap.size := by omega
    go_wp2_with fail
    have k0 := cell_regrown g0'
    have k1 := cell_regrown g1'
    refine wp_region_below (by kernel_rfl) (by kernel_rfl) ?_
    repeat (go_big_quiet_step (first | (with_reducible fail)))
    refine wpQuiet_nil ?_
    intro wr hbq1
    have h0' := (hbq1.cell (p := ⟨g, 0, none⟩) hgq).trans g0'
    have h1' := (hbq1.cell (p := ⟨g, 1, none⟩) hgq).trans g1'
    have zy' := (hbq1.cell (p := ⟨b, off + i, none⟩) hbq).trans zy
    have HC4 := Lib.hid (HC3.out.below hbq1)
    have HG4 : Hid (w.grownBy wr (some g)) := Lib.hid ⟨hbq1.os.trans HG3.out.os, hbq1.tape.trans HG3.out.tape, hbq1.output.trans HG3.out.output, Nat.le_trans HG3.out.size hbq1.size, fun k hk hne => (hbq1.block k (Nat.lt_of_lt_of_le hk HG3.out.size)).trans (HG3.out.block k hk hne)⟩
    clear hbq1 k0 k1 g0' g1' zy HC3 HG3
    have hgr := HC4.out.lt
    have hbr : b < wr.heap.size := by omega
    go_wp2_with fail
    have k0 := cell_regrown h0'
    have k1 := cell_regrown h1'
    have k2 := cell_regrown zy'
    refine wp_region_below (by kernel_rfl) (by kernel_rfl) ?_
    repeat (go_big_quiet_step (first | (with_reducible fail)))
    refine wpQuiet_nil ?_
    intro ws hbq2
    have h1' := (hbq2.cell (p := ⟨g, 1, none⟩) hgr).trans h1'
    have HC5 := Lib.hid (HC4.out.below hbq2)
    have HG5 : Hid (w.grownBy ws (some g)) := Lib.hid ⟨hbq2.os.trans HG4.out.os, hbq2.tape.trans HG4.out.tape, hbq2.output.trans HG4.out.output, Nat.le_trans HG4.out.size hbq2.size, fun k hk hne => (hbq2.block k (Nat.lt_of_lt_of_le hk HG4.out.size)).trans (HG4.out.block k hk hne)⟩
    clear hbq2 k0 k1 k2 h0' zy' HC4 HG4
    obtain ⟨C6, G6⟩ := set3 HC5.out 1 ((i : Int) + 1) (.inr ⟨rfl, by omega⟩)
    have HC6 := Lib.hid C6
    have HG6 := Lib.hid (HG5.out.trans G6)
    have f1 := HC5.out.frz 1
    clear C6 G6
    go_wp2
    go_ret
    exact ⟨z, rfl, hz, HC6.out, HG6.out⟩
  · go_wp2_with fail
    have k0 := cell_regrown g0'
    have k1 := cell_regrown g1'
    refine wp_region_below (by kernel_rfl) (by kernel_rfl) ?_
    repeat (go_big_quiet_step (first | (with_reducible fail)))
    refine wpQuiet_nil ?_
    intro wr hbq1
    have HC4 := Lib.hid (HC3.out.below hbq1)
    have HG4 : Hid (w.grownBy wr (some g)) := Lib.hid ⟨hbq1.os.trans HG3.out.os, hbq1.tape.trans HG3.out.tape, hbq1.output.trans HG3.out.output, Nat.le_trans HG3.out.size hbq1.size, fun k hk hne => (hbq1.block k (Nat.lt_of_lt_of_le hk HG3.out.size)).trans (HG3.out.block k hk hne)⟩
    clear hbq1 k0 k1 g0' g1' HC3 HG3
    go_wp2
    go_ret
    exact ⟨x, rfl, hx, HC4.out, HG4.out⟩
set_option maxHeartbeats 4000000 in
theorem l01Below_any (lo : Nat) (w : World) (g : Nat) (v : Value) (n : Nat) (hn : 1 ≤ n) (hn2 : n ≤ 256) (hc : CurB lo w g v) :
    Calls Try.prog 66 #[.pointer (some ⟨g, 0, none⟩), .int .i64 n] w fun e w' => ∃ x : Nat, e = .returned (.int .i64 x) ∧ x < n ∧ CurB lo w' g v ∧ w.grownBy w' (some g) := by
  have HC := Lib.hid hc
  clear hc
  go_enter Try.func66, Try.ntmps66
  go_wp2_with fail
  refine (l01Byte_any lo _ g v HC.out).mono ?_
  rintro e w1 ⟨x, rfl, hx, hc1, hg1⟩
  have HC1 := Lib.hid hc1
  have HG1 := Lib.hid hg1
  clear hc1 hg1
  have e0 : (x : Int) % (n : Int) = ((x % n : Nat) : Int) := by simp
  have hxn := Nat.mod_lt x (show 0 < n by omega)
  go_wp2
  go_ret
  exact ⟨x % n, ret_int (by simp), hxn, HC1.out, HG1.out⟩
theorem l01Below_lit (lo : Nat) (w : World) (g : Nat) (v : Value) (k : Int) (n : Nat) (hk : k = n) (hn : 1 ≤ n) (hn2 : n ≤ 256) (hc : CurB lo w g v) :
    Calls Try.prog 66 #[.pointer (some ⟨g, 0, none⟩), .int .i64 k] w fun e w' => ∃ x : Nat, e = .returned (.int .i64 x) ∧ x < n ∧ CurB lo w' g v ∧ w.grownBy w' (some g) := by
  subst hk
  exact l01Below_any lo w g v n hn hn2 hc
set_option maxHeartbeats 4000000 in
theorem l01New_any (w : World) (v : Value) (hv : BytesV w w.heap.size v) :
    Calls Try.prog 67 #[v] w fun e w' => ∃ g, e = .returned (.pointer (some ⟨g, 0, none⟩)) ∧ CurB w.heap.size w' g v ∧ Below w.heap.size w w' := by
  have HV := Lib.hid hv
  obtain ⟨A, n, c, rfl, hnc, hcc, hbc⟩ := hv
  unfold maxLen at hcc
  have HBC := Lib.hid hbc
  clear hbc
  go_enter Try.func67, Try.ntmps67
  go_wp2
  go_loop [3, 4] (fun h i => ∃ (x : Int) (k : Nat), k ≤ n ∧ k ≤ 4000 ∧ h = .int .i64 x ∧ i = .int .i64 k) (fun _ i => 4000 - (intOf i).toNat)
  case atStart => exact ⟨_, 0, by omega, by omega, rfl, rfl⟩
  case round =>
    obtain ⟨x, k, hk, hk4, rfl, rfl⟩ := hrel
    by_cases hlt : k < n
    · by_cases h4 : k < 4000
      · obtain ⟨b, off, rfl, hb, hbk⟩ := HBC.out (by omega)
        obtain ⟨y, hy, zy⟩ := hbk k hlt
        have ek : IntKind.i64.wrap ((k : Int) + 1) = (k : Int) + 1 := IntWalk.i64_in _ (by omega)
        clear hbk
        go_wp2
        go_round
        case rel => exact ⟨_, k + 1, by omega, by omega, rfl, by go_num⟩
        case measure => simp [intOf]; omega
      · have hd4 : decide ((k : Int) < 4000) = false := by simp; omega
        go_wp2
        go_ret
        refine ⟨_, rfl, ⟨⟨0, _, by simp, by simp, by simp; rfl⟩, fun k => by simp, HV.out.keep fun p hp => ?_, Nat.le_refl _⟩, below_alloc1 _ _⟩
        exact (below_alloc1 w _).cell hp
    · go_wp2
      go_ret
      refine ⟨_, rfl, ⟨⟨0, _, by simp, by simp, by simp; rfl⟩, fun k => by simp, HV.out.keep fun p hp => ?_, Nat.le_refl _⟩, below_alloc1 _ _⟩
      exact (below_alloc1 w _).cell hp
set_option maxHeartbeats 4000000 in
theorem l32New_any (w : World) (v : Value) (n : Nat) (hn : n ≤ 1000) (hv : BytesV w w.heap.size v) :
    Calls Try.prog 44 #[v, .int .i64 n] w fun e w' => ∃ g, e = .returned (.pointer (some ⟨g, 0, none⟩)) ∧ CurB w.heap.size w' g v ∧ Below w.heap.size w w' := by
  have HV := Lib.hid hv
  clear hv
  go_enter Try.func44, Try.ntmps44
  go_wp2_with fail
  refine (l01New_any w v HV.out).mono ?_
  rintro e w1 ⟨g, rfl, hc1, hb1⟩
  have HC1 := Lib.hid hc1
  have HB1 := Lib.hid hb1
  clear hc1 hb1
  go_wp2
  go_loopw [6] (fun i wr => ∃ k : Nat, k ≤ n ∧ i = .int .i64 k ∧ Hid (CurB w.heap.size wr g v) ∧ Hid (Below w.heap.size w wr)) (fun i _ => n - (intOf i).toNat)
  case atStart => exact ⟨0, by omega, rfl, HC1, HB1⟩
  case round =>
    obtain ⟨wo, rfl⟩ : ∃ x, x = wr := ⟨_, rfl⟩
    obtain ⟨k, hk, rfl, HC, HB⟩ := hrel
    by_cases hlt : k < n
    · have ek : IntKind.i64.wrap ((k : Int) + 1) = (k : Int) + 1 := IntWalk.i64_in _ (by omega)
      go_wp2_with fail
      refine (l01Byte_any w.heap.size _ g v HC.out).mono ?_
      rintro e w2 ⟨x, rfl, hx, hc2, hg2⟩
      have HC2 := Lib.hid hc2
      have HB2 := Lib.hid (HB.out.trans (below_cur hg2 HC.out.le HB.out.size))
      clear hc2 hg2
      go_wp2
      go_roundw
      case rel => exact ⟨k + 1, by omega, by go_num, HC2, HB2⟩
      case measure => simp [intOf]; omega
    · obtain rfl : n = k := by omega
      go_wp2
      go_ret
      exact ⟨g, rfl, HC.out, HB.out⟩
theorem l32New_lit (w : World) (v : Value) (k : Int) (n : Nat) (hk : k = n) (hn : n ≤ 1000) (hv : BytesV w w.heap.size v) :
    Calls Try.prog 44 #[v, .int .i64 k] w fun e w' => ∃ g, e = .returned (.pointer (some ⟨g, 0, none⟩)) ∧ CurB w.heap.size w' g v ∧ Below w.heap.size w w' := by
  subst hk
  exact l32New_any w v n hn hv
set_option maxHeartbeats 4000000 in
theorem makeNum_any (w : World) (v : Value) (k : Int) (n : Nat) (hk : k = n) (hn : n ≤ 1000) (hv : BytesV w w.heap.size v) :
    Calls Try.prog 29 #[v, .int .i64 k] w fun e w' => ∃ x : Nat, e = .returned (.int .i64 x) ∧ x < 65536 ∧ Below w.heap.size w w' := by
  have HV := Lib.hid hv
  have HK := Lib.hid hk
  clear hv hk
  go_enter Try.func29, Try.ntmps29
  go_wp2_with fail
  refine (l32New_lit w v k n HK.out hn HV.out).mono ?_
  rintro e w1 ⟨g, rfl, hc1, hb1⟩
  have HC1 := Lib.hid hc1
  have HB1 := Lib.hid hb1
  clear hc1 hb1
  go_wp2_with fail
  refine (l01Byte_any w.heap.size _ g v HC1.out).mono ?_
  rintro e w2 ⟨x, rfl, hx, hc2, hg2⟩
  have HC2 := Lib.hid hc2
  have HB2 := Lib.hid (HB1.out.trans (below_cur hg2 HC1.out.le HB1.out.size))
  clear hc2 hg2
  go_wp2_with fail
  refine (l01Byte_any w.heap.size _ g v HC2.out).mono ?_
  rintro e w3 ⟨y, rfl, hy, hc3, hg3⟩
  have HB3 := Lib.hid (HB2.out.trans (below_cur hg3 HC2.out.le HB2.out.size))
  clear hc3 hg3
  have e0 : IntKind.i64.wrap ((x : Int) * 256) = (x : Int) * 256 := IntWalk.i64_in _ (by omega)
  have e1 : IntKind.i64.wrap ((x : Int) * 256 + (y : Int)) = (x : Int) * 256 + (y : Int) := IntWalk.i64_in _ (by omega)
  go_wp2
  go_ret
  exact ⟨x * 256 + y, ret_int (by omega), by omega, HB3.out⟩
end Go.Proofs.Ytdmneccfbfdloaa
