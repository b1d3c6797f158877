/- Texts put together: Cur, Draw2. -/
import Derived.Test.YthoodjjjklbggaaGreatDoorMTriangles01
import Derived.Test.YthoodjjjklbggaaGreatDoorMTriangles02
import Derived.Test.YthoodjjjklbggaaGreatDoorMTriangles03
import Derived.Test.YthoodjjjklbggaaGreatDoorMTriangles16
import Derived.Test.YthoodjjjklbggaaGreatDoorMTriangles04
namespace Go.Proofs.YthoodjjjklbggaaGreatDoor
open Go.RowKit Go.Sort
set_option maxRecDepth 100000
theorem i64_and_255 (x : Int) : ∃ n : Nat, n < 256 ∧ bits .and .i64 x 255 = (n : Int) := by
  refine ⟨(BitVec.ofInt 64 x &&& BitVec.ofInt 64 255).toNat, ?_, ?_⟩
  · rw [BitVec.toNat_and, show (BitVec.ofInt 64 255).toNat = 255 from rfl, nat_mask8]
    omega
  · have h : (BitVec.ofInt 64 x &&& BitVec.ofInt 64 255).toNat < 256 := by
      rw [BitVec.toNat_and, show (BitVec.ofInt 64 255).toNat = 255 from rfl, nat_mask8]
      omega
    show IntKind.i64.wrap ((BitVec.ofInt 64 x &&& BitVec.ofInt 64 255).toNat : Int) = _
    rw [IntKind.wrap_i64]
    omega
/-- a slice of bytes in a block below lo -/
def BytesV (w : World) (lo : Nat) (v : Value) : Prop := ∃ (A : Option Addr) (n c : Nat), v = .slice A n c ∧ n ≤ c ∧ c ≤ maxLen ∧
    (0 < n → ∃ b off, A = some ⟨b, off, none⟩ ∧ b < lo ∧ ∀ k, k < n → ∃ x : Nat, x < 256 ∧ w.cell? ⟨b, off + k, none⟩ = some (.int .u8 x))
theorem BytesV.keep {w w' : World} {lo : Nat} {v : Value} (h : BytesV w lo v) (hb : ∀ p : Addr, p.block < lo → w'.cell? p = w.cell? p) : BytesV w' lo v := by
  obtain ⟨A, n, c, rfl, h1, h2, h3⟩ := h
  refine ⟨A, n, c, rfl, h1, h2, fun h0 => ?_⟩
  obtain ⟨b, off, rfl, hlt, hc⟩ := h3 h0
  refine ⟨b, off, rfl, hlt, fun k hk => ?_⟩
  obtain ⟨x, hx, e⟩ := hc k hk
  exact ⟨x, hx, by rw [hb ⟨b, off + k, none⟩ hlt]; exact e⟩
theorem BytesV.mono {w : World} {lo hi : Nat} {v : Value} (h : BytesV w lo v) (hl : lo ≤ hi) : BytesV w hi v := by
  obtain ⟨A, n, c, rfl, h1, h2, h3⟩ := h
  refine ⟨A, n, c, rfl, h1, h2, fun h0 => ?_⟩
  obtain ⟨b, off, rfl, hlt, hc⟩ := h3 h0
  exact ⟨b, off, rfl, by omega, hc⟩
/-- the cursor in its box g, over bytes below lo -/
structure CurB (lo : Nat) (w : World) (g : Nat) (v : Value) : Prop where
  cells : ∃ (i : Nat) (h : Int), w.cell? ⟨g, 0, none⟩ = some v ∧ w.cell? ⟨g, 1, none⟩ = some (.int .i64 i) ∧ w.cell? ⟨g, 2, none⟩ = some (.int .i64 h)
  frz : ∀ k, w.frozen? ⟨g, k, none⟩ = false
  bytes : BytesV w lo v
  le : lo ≤ g
theorem CurB.lt {lo : Nat} {w : World} {g : Nat} {v : Value} (h : CurB lo w g v) : g < w.heap.size := by
  obtain ⟨i, h, e, -⟩ := h.cells
  exact World.block_lt_of_cell? w _ e
theorem CurB.kept {lo : Nat} {w w' : World} {g : Nat} {v : Value} {row : Option Nat} (h : CurB lo w g v) (hg : w.grownBy w' row) (hne : ∀ k, row = some k → lo ≤ k ∧ k ≠ g) : CurB lo w' g v := by
  have hlt := h.lt
  have hb := hg.block g hlt (fun e => (hne g e.symm).2 rfl)
  obtain ⟨i, x, e0, e1, e2⟩ := h.cells
  refine ⟨⟨i, x, (World.cell?_of_block hb).trans e0, (World.cell?_of_block hb).trans e1, (World.cell?_of_block hb).trans e2⟩, fun k => (World.frozen?_of_block hb).trans (h.frz k), h.bytes.keep fun p hp => World.cell?_of_block (hg.block p.block (by have := h.le; omega) (fun e => by have := (hne _ e.symm).1; omega)), h.le⟩
theorem CurB.below {lo : Nat} {w w' : World} {g : Nat} {v : Value} (h : CurB lo w g v) (hb : Below w.heap.size w w') : CurB lo w' g v := by
  have hlt := h.lt
  obtain ⟨i, x, e0, e1, e2⟩ := h.cells
  exact ⟨⟨i, x, (hb.cell (p := ⟨g, 0, none⟩) hlt).trans e0, (hb.cell (p := ⟨g, 1, none⟩) hlt).trans e1, (hb.cell (p := ⟨g, 2, none⟩) hlt).trans e2⟩, fun k => ((bcell hb).2 _ _ hlt).trans (h.frz k), h.bytes.keep fun p hp => hb.cell (by have := h.le; omega), h.le⟩
theorem below_cur {w w' : World} {g : Nat} (hg : w.grownBy w' (some g)) {B : Nat} (hB : B ≤ g) (hs : B ≤ w.heap.size) : Below B w w' := (Below.refl B w).grown hg hs (fun k e => by injection e with e; omega)
theorem set3 {lo : Nat} {w : World} {g : Nat} {v : Value} (h : CurB lo w g v) (k : Nat) (y : Int) (hk : k = 2 ∨ (k = 1 ∧ 0 ≤ y)) : CurB lo (w.setCell ⟨g, k, none⟩ (.int .i64 y)) g v ∧ w.grownBy (w.setCell ⟨g, k, none⟩ (.int .i64 y)) (some g) := by
  obtain ⟨i, x, e0, e1, e2⟩ := h.cells
  have hgr : w.grownBy (w.setCell ⟨g, k, none⟩ (.int .i64 y)) (some g) := setCell_grown _ ⟨g, k, none⟩ _
  refine ⟨⟨?_, fun j => by have := h.frz j; simpa [go_sem] using this, h.bytes.keep fun p hp => World.cell?_of_block (hgr.block p.block (by have := h.le; have := h.lt; omega) (fun e => by injection e with e; have := h.le; omega)), h.le⟩, hgr⟩
  rcases hk with rfl | ⟨rfl, hy⟩
  · exact ⟨i, y, (World.cell?_setCell_other _ _ _ _ (by simp)).trans e0, (World.cell?_setCell_other _ _ _ _ (by simp)).trans e1, World.cell?_setCell_same _ _ _ e2⟩
  · obtain ⟨n, rfl⟩ := Int.eq_ofNat_of_zero_le hy
    exact ⟨n, x, (World.cell?_setCell_other _ _ _ _ (by simp)).trans e0, World.cell?_setCell_same _ _ _ e1, (World.cell?_setCell_other _ _ _ _ (by simp)).trans e2⟩
theorem CurB.drew {lo : Nat} {w : World} {g : Nat} {v : Value} (h : CurB lo w g v) : CurB lo w.drew g v := ⟨h.cells, h.frz, h.bytes, h.le⟩
/-- one block and what is new -/
theorem grown_belowC {w w1 w2 : World} {g : Nat} (h : w.grownBy w1 (some g)) (hb : Below w.heap.size w1 w2) : w.grownBy w2 (some g) :=
  ⟨hb.os.trans h.os, hb.tape.trans h.tape, hb.output.trans h.output, Nat.le_trans h.size hb.size, fun k hk hne => (hb.block k hk).trans (h.block k hk hne)⟩
theorem grown_newC {w w1 w2 : World} {g : Nat} {row : Option Nat} (h : w.grownBy w1 (some g)) (hg : w1.grownBy w2 row) (hr : ∀ k, row = some k → w.heap.size ≤ k) : w.grownBy w2 (some g) :=
  grown_belowC h ((Below.refl w.heap.size w1).grown hg h.size hr)
theorem grown_drew {w w1 : World} {row : Option Nat} (h : w.grownBy w1 row) : w.grownBy w1.drew row := ⟨h.os, h.tape, h.output, h.size, h.block⟩
theorem other_mod {a y C : Nat} (ha : a < C) (hy : y < C - 1) : (a + 1 + y) % C < C ∧ (a + 1 + y) % C ≠ a := by
  refine ⟨Nat.mod_lt _ (by omega), ?_⟩
  rcases Nat.lt_or_ge (a + 1 + y) C with h | h
  · rw [Nat.mod_eq_of_lt h]; omega
  · rw [Nat.mod_eq_sub_mod h, Nat.mod_eq_of_lt (by omega)]; omega
theorem other_ex {a y C : Nat} (ha : a < C) (hy : y < C - 1) : ∃ b : Nat, Int.tmod ((a : Int) + 1 + (y : Int)) (C : Int) = (b : Int) ∧ b < C ∧ b ≠ a :=
  ⟨(a + 1 + y) % C, by rw [Int.tmod_eq_emod_of_nonneg (by omega)]; simp, (other_mod ha hy).1, (other_mod ha hy).2⟩
set_option maxHeartbeats 4000000 in
theorem l01Byte_any (lo : Nat) (w : World) (g : Nat) (v : Value) (hc : CurB lo w g v) :
    Calls Tryz.prog 57 #[.pointer (some ⟨g, 0, none⟩)] w fun e w' => ∃ x : Nat, e = .returned (.int .i64 x) ∧ x < 256 ∧ CurB lo w' g v ∧ w.grownBy w' (some g) := by
  have hg := hc.lt
  have HC := Lib.hid hc
  obtain ⟨i, h, z0, z1, z2⟩ := hc.cells
  have f2 := hc.frz 2
  clear hc
  obtain ⟨h1, eh1⟩ : ∃ h1, IntKind.i64.wrap (h * 6364136223846793005) = h1 := ⟨_, rfl⟩
  obtain ⟨h2, eh2⟩ : ∃ h2, IntKind.i64.wrap (h1 + 1442695040888963407) = h2 := ⟨_, rfl⟩
  obtain ⟨C2, G2⟩ := set3 HC.out 2 h2 (.inl rfl)
  have HC2 := Lib.hid C2
  have HG2 := Lib.hid G2
  clear C2 G2 HC
  go_enter Tryz.func57, Tryz.ntmps57
  go_wp2_with fail
  have g0 : (w.setCell ⟨g, 2, none⟩ (.int .i64 h2)).cell? ⟨g, 0, none⟩ = some v := (World.cell?_setCell_other _ _ _ _ (by simp)).trans z0
  have g1 : (w.setCell ⟨g, 2, none⟩ (.int .i64 h2)).cell? ⟨g, 1, none⟩ = some (.int .i64 i) := (World.cell?_setCell_other _ _ _ _ (by simp)).trans z1
  have g2 : (w.setCell ⟨g, 2, none⟩ (.int .i64 h2)).cell? ⟨g, 2, none⟩ = some (.int .i64 h2) := World.cell?_setCell_same _ _ _ z2
  clear z0 z1 z2 f2 eh1 eh2
  generalize w.setCell ⟨g, 2, none⟩ (.int .i64 h2) = w1 at *
  have hg1 : g < w1.heap.size := HC2.out.lt
  obtain ⟨x, hx, ex⟩ := i64_and_255 (bits .xor .i64 (h2 / 8589934592) (h2 / 35184372088832))
  have c2 := cell_regrown g2
  refine wp_region_below (by kernel_rfl) (by kernel_rfl) ?_
  repeat (go_big_quiet_step (first | (with_reducible fail)))
  refine wpQuiet_nil ?_
  intro wq hbq0
  have g0' := (hbq0.cell (p := ⟨g, 0, none⟩) hg1).trans g0
  have g1' := (hbq0.cell (p := ⟨g, 1, none⟩) hg1).trans g1
  have HC3 := Lib.hid (HC2.out.below hbq0)
  have HG3 : Hid (w.grownBy wq (some g)) := Lib.hid ⟨hbq0.os.trans HG2.out.os, hbq0.tape.trans HG2.out.tape, hbq0.output.trans HG2.out.output, Nat.le_trans HG2.out.size hbq0.size, fun k hk hne => (hbq0.block k (Nat.lt_of_lt_of_le hk HG2.out.size)).trans (HG2.out.block k hk hne)⟩
  clear hbq0 c2 g0 g1 g2 ex HC2 HG2
  obtain ⟨A, n, cc, rfl, hnc, hcc, hbc⟩ := HC3.out.bytes
  unfold maxLen at hcc
  by_cases hlt : i < n
  · obtain ⟨b, off, rfl, hb, hbk⟩ := hbc (by omega)
    obtain ⟨y, hy, zy⟩ := hbk i hlt
    obtain ⟨z, hz, ez⟩ := i64_and_255 ((x : Int) + (y : Int))
    have ey : IntKind.i64.wrap (y : Int) = (y : Int) := IntWalk.i64_in _ (by omega)
    have exy : IntKind.i64.wrap ((x : Int) + (y : Int)) = (x : Int) + (y : Int) := IntWalk.i64_in _ (by omega)
    have ei : IntKind.i64.wrap ((i : Int) + 1) = (i : Int) + 1 := IntWalk.i64_in _ (by omega)
    have hlo := HC3.out.le
    have hgq := HC3.out.lt
    have hbq : b < wq.heap.size := by omega
    go_wp2_with fail
    have k0 := cell_regrown g0'
    have k1 := cell_regrown g1'
    refine wp_region_below (by kernel_rfl) (by kernel_rfl) ?_
    repeat (go_big_quiet_step (first | (with_reducible fail)))
    refine wpQuiet_nil ?_
    intro wr hbq1
    have h0' := (hbq1.cell (p := ⟨g, 0, none⟩) hgq).trans g0'
    have h1' := (hbq1.cell (p := ⟨g, 1, none⟩) hgq).trans g1'
    have zy' := (hbq1.cell (p := ⟨b, off + i, none⟩) hbq).trans zy
    have HC4 := Lib.hid (HC3.out.below hbq1)
    have HG4 : Hid (w.grownBy wr (some g)) := Lib.hid ⟨hbq1.os.trans HG3.out.os, hbq1.tape.trans HG3.out.tape, hbq1.output.trans HG3.out.output, Nat.le_trans HG3.out.size hbq1.size, fun k hk hne => (hbq1.block k (Nat.lt_of_lt_of_le hk HG3.out.size)).trans (HG3.out.block k hk hne)⟩
    clear hbq1 k0 k1 g0' g1' zy HC3 HG3
    have hgr := HC4.out.lt
    have hbr : b < wr.heap.size := by omega
    go_wp2_with fail
    have k0 := cell_regrown h0'
    have k1 := cell_regrown h1'
    have k2 := cell_regrown zy'
    refine wp_region_below (by kernel_rfl) (by kernel_rfl) ?_
    repeat (go_big_quiet_step (first | (with_reducible fail)))
    refine wpQuiet_nil ?_
    intro ws hbq2
    have h1' := (hbq2.cell (p := ⟨g, 1, none⟩) hgr).trans h1'
    have HC5 := Lib.hid (HC4.out.below hbq2)
    have HG5 : Hid (w.grownBy ws (some g)) := Lib.hid ⟨hbq2.os.trans HG4.out.os, hbq2.tape.trans HG4.out.tape, hbq2.output.trans HG4.out.output, Nat.le_trans HG4.out.size hbq2.size, fun k hk hne => (hbq2.block k (Nat.lt_of_lt_of_le hk HG4.out.size)).trans (HG4.out.block k hk hne)⟩
    clear hbq2 k0 k1 k2 h0' zy' HC4 HG4
    obtain ⟨C6, G6⟩ := set3 HC5.out 1 ((i : Int) + 1) (.inr ⟨rfl, by omega⟩)
    have HC6 := Lib.hid C6
    have HG6 := Lib.hid (HG5.out.trans G6)
    have f1 := HC5.out.frz 1
    clear C6 G6
    go_wp2
    go_ret
    exact ⟨z, rfl, hz, HC6.out, HG6.out⟩
  · go_wp2_with fail
    have k0 := cell_regrown g0'
    have k1 := cell_regrown g1'
    refine wp_region_below (by kernel_rfl) (by kernel_rfl) ?_
    repeat (go_big_quiet_step (first | (with_reducible fail)))
    refine wpQuiet_nil ?_
    intro wr hbq1
    have HC4 := Lib.hid (HC3.out.below hbq1)
    have HG4 : Hid (w.grownBy wr (some g)) := Lib.hid ⟨hbq1.os.trans HG3.out.os, hbq1.tape.trans HG3.out.tape, hbq1.output.trans HG3.out.output, Nat.le_trans HG3.out.size hbq1.size, fun k hk hne => (hbq1.block k (Nat.lt_of_lt_of_le hk HG3.out.size)).trans (HG3.out.block k hk hne)⟩
    clear hbq1 k0 k1 g0' g1' HC3 HG3
    go_wp2
    go_ret
    exact ⟨x, rfl, hx, HC4.out, HG4.out⟩
set_option maxHeartbeats 4000000 in
theorem l01Below_any (lo : Nat) (w : World) (g : Nat) (v : Value) (n : Nat) (hn : 1 ≤ n) (hn2 : n ≤ 256) (hc : CurB lo w g v) :
    Calls Tryz.prog 37 #[.pointer (some ⟨g, 0, none⟩), .int .i64 n] w fun e w' => ∃ x : Nat, e = .returned (.int .i64 x) ∧ x < n ∧ CurB lo w' g v ∧ w.grownBy w' (some g) := by
  have HC := Lib.hid hc
  clear hc
  go_enter Tryz.func37, Tryz.ntmps37
  go_wp2_with fail
  refine (l01Byte_any lo _ g v HC.out).mono ?_
  rintro e w1 ⟨x, rfl, hx, hc1, hg1⟩
  have HC1 := Lib.hid hc1
  have HG1 := Lib.hid hg1
  clear hc1 hg1
  have e0 : (x : Int) % (n : Int) = ((x % n : Nat) : Int) := by simp
  have hxn := Nat.mod_lt x (show 0 < n by omega)
  go_wp2
  go_ret
  exact ⟨x % n, ret_int (by simp), hxn, HC1.out, HG1.out⟩
theorem l01Below_lit (lo : Nat) (w : World) (g : Nat) (v : Value) (k : Int) (n : Nat) (hk : k = n) (hn : 1 ≤ n) (hn2 : n ≤ 256) (hc : CurB lo w g v) :
    Calls Tryz.prog 37 #[.pointer (some ⟨g, 0, none⟩), .int .i64 k] w fun e w' => ∃ x : Nat, e = .returned (.int .i64 x) ∧ x < n ∧ CurB lo w' g v ∧ w.grownBy w' (some g) := by
  subst hk
  exact l01Below_any lo w g v n hn hn2 hc
set_option maxHeartbeats 4000000 in
theorem l01New_any (w : World) (v : Value) (hv : BytesV w w.heap.size v) :
    Calls Tryz.prog 56 #[v] w fun e w' => ∃ g, e = .returned (.pointer (some ⟨g, 0, none⟩)) ∧ CurB w.heap.size w' g v ∧ Below w.heap.size w w' := by
  have HV := Lib.hid hv
  obtain ⟨A, n, c, rfl, hnc, hcc, hbc⟩ := hv
  unfold maxLen at hcc
  have HBC := Lib.hid hbc
  clear hbc
  go_enter Tryz.func56, Tryz.ntmps56
  go_wp2
  go_loop [3, 4] (fun h i => ∃ (x : Int) (k : Nat), k ≤ n ∧ k ≤ 4000 ∧ h = .int .i64 x ∧ i = .int .i64 k) (fun _ i => 4000 - (intOf i).toNat)
  case atStart => exact ⟨_, 0, by omega, by omega, rfl, rfl⟩
  case round =>
    obtain ⟨x, k, hk, hk4, rfl, rfl⟩ := hrel
    by_cases hlt : k < n
    · by_cases h4 : k < 4000
      · obtain ⟨b, off, rfl, hb, hbk⟩ := HBC.out (by omega)
        obtain ⟨y, hy, zy⟩ := hbk k hlt
        have ek : IntKind.i64.wrap ((k : Int) + 1) = (k : Int) + 1 := IntWalk.i64_in _ (by omega)
        clear hbk
        go_wp2
        go_round
        case rel => exact ⟨_, k + 1, by omega, by omega, rfl, by go_num⟩
        case measure => simp [intOf]; omega
      · have hd4 : decide ((k : Int) < 4000) = false := by simp; omega
        go_wp2
        go_ret
        refine ⟨_, rfl, ⟨⟨0, _, by simp, by simp, by simp; rfl⟩, fun k => by simp, HV.out.keep fun p hp => ?_, Nat.le_refl _⟩, below_alloc1 _ _⟩
        exact (below_alloc1 w _).cell hp
    · go_wp2
      go_ret
      refine ⟨_, rfl, ⟨⟨0, _, by simp, by simp, by simp; rfl⟩, fun k => by simp, HV.out.keep fun p hp => ?_, Nat.le_refl _⟩, below_alloc1 _ _⟩
      exact (below_alloc1 w _).cell hp
set_option maxHeartbeats 4000000 in
theorem l32New_any (w : World) (v : Value) (n : Nat) (hn : n ≤ 1000) (hv : BytesV w w.heap.size v) :
    Calls Tryz.prog 22 #[v, .int .i64 n] w fun e w' => ∃ g, e = .returned (.pointer (some ⟨g, 0, none⟩)) ∧ CurB w.heap.size w' g v ∧ Below w.heap.size w w' := by
  have HV := Lib.hid hv
  clear hv
  go_enter Tryz.func22, Tryz.ntmps22
  go_wp2_with fail
  refine (l01New_any w v HV.out).mono ?_
  rintro e w1 ⟨g, rfl, hc1, hb1⟩
  have HC1 := Lib.hid hc1
  have HB1 := Lib.hid hb1
  clear hc1 hb1
  go_wp2
  go_loopw [6] (fun i wr => ∃ k : Nat, k ≤ n ∧ i = .int .i64 k ∧ Hid (CurB w.heap.size wr g v) ∧ Hid (Below w.heap.size w wr)) (fun i _ => n - (intOf i).toNat)
  case atStart => exact ⟨0, by omega, rfl, HC1, HB1⟩
  case round =>
    obtain ⟨wo, rfl⟩ : ∃ x, x = wr := ⟨_, rfl⟩
    obtain ⟨k, hk, rfl, HC, HB⟩ := hrel
    by_cases hlt : k < n
    · have ek : IntKind.i64.wrap ((k : Int) + 1) = (k : Int) + 1 := IntWalk.i64_in _ (by omega)
      go_wp2_with fail
      refine (l01Byte_any w.heap.size _ g v HC.out).mono ?_
      rintro e w2 ⟨x, rfl, hx, hc2, hg2⟩
      have HC2 := Lib.hid hc2
      have HB2 := Lib.hid (HB.out.trans (below_cur hg2 HC.out.le HB.out.size))
      clear hc2 hg2
      go_wp2
      go_roundw
      case rel => exact ⟨k + 1, by omega, by go_num, HC2, HB2⟩
      case measure => simp [intOf]; omega
    · obtain rfl : n = k := by omega
      go_wp2
      go_ret
      exact ⟨g, rfl, HC.out, HB.out⟩
theorem l32New_lit (w : World) (v : Value) (k : Int) (n : Nat) (hk : k = n) (hn : n ≤ 1000) (hv : BytesV w w.heap.size v) :
    Calls Tryz.prog 22 #[v, .int .i64 k] w fun e w' => ∃ g, e = .returned (.pointer (some ⟨g, 0, none⟩)) ∧ CurB w.heap.size w' g v ∧ Below w.heap.size w w' := by
  subst hk
  exact l32New_any w v n hn hv
end Go.Proofs.YthoodjjjklbggaaGreatDoor

namespace Go.Proofs.YthoodjjjklbggaaGreatDoor
open Go.RowKit Go.Sort
set_option maxRecDepth 100000
set_option maxHeartbeats 8000000 in
theorem l02Draw_any (lo : Nat) (w : World) (g : Nat) (cv : Value) (most : Nat) (hm1 : 1 ≤ most) (hm8 : most ≤ 8) (hc : CurB lo w g cv) :
    Calls Tryz.prog 36 #[.pointer (some ⟨g, 0, none⟩), .int .i64 most] w fun e w' => ∃ (n : Nat) (sl : Value) (xs : List Int), e = .returned (.agg #[.int .i64 n, sl]) ∧ n ≤ most ∧ tourP n xs ∧ Own w' w.heap.size sl xs ∧ CurB lo w' g cv ∧ w.grownBy w' (some g) := by
  have hgw := hc.lt
  have HC0 := Lib.hid (hc.below (below_alloc1 w (.cells #[.int .i64 0, .slice none 0 0] 25)))
  have HT0 := Lib.hid (BoxF.new w 0 (.slice none 0 0) 25)
  have HG0 : Hid (w.grownBy (w.alloc (.cells #[.int .i64 0, .slice none 0 0] 25)) (some g)) := Lib.hid (grown_belowC ⟨rfl, rfl, rfl, Nat.le_refl _, fun _ _ _ => rfl⟩ (below_alloc1 _ _))
  have hrb : w.heap.size ≠ g := by omega
  clear hc
  go_enter Tryz.func36, Tryz.ntmps36
  go_wp2_with fail
  generalize w.alloc (.cells #[.int .i64 0, .slice none 0 0] 25) = w0 at *
  go_wp2_with fail
  refine (l01Below_any lo _ g cv most hm1 (by omega) HC0.out).mono ?_
  rintro e w1 ⟨x, rfl, hx, hc1, hg1⟩
  have HC1 := Lib.hid hc1
  have HT1 := Lib.hid (HT0.out.kept hg1 (by simpa using hrb))
  have HG1 := Lib.hid (HG0.out.trans hg1)
  clear hc1 hg1 HC0 HT0 HG0
  obtain ⟨n, hn⟩ : ∃ n : Nat, n = 1 + x := ⟨_, rfl⟩
  have en : (1 : Int) + (x : Int) = (n : Int) := by omega
  have hn1 : 1 ≤ n := by omega
  have hn8 : n ≤ most := by omega
  clear hn
  go_wp2_with fail
  refine (l01Below_lit lo _ g cv 256 256 rfl (by omega) (by omega) HC1.out).mono ?_
  rintro e w2 ⟨x2, rfl, hx2, hc2, hg2⟩
  have HC2 := Lib.hid hc2
  have HT2 := Lib.hid (HT1.out.kept hg2 (by simpa using hrb))
  have HG2 := Lib.hid (HG1.out.trans hg2)
  clear hc2 hg2 HC1 HT1 HG1
  go_wp2_with fail
  refine (l01Below_lit lo _ g cv 256 256 rfl (by omega) (by omega) HC2.out).mono ?_
  rintro e w3 ⟨x3, rfl, hx3, hc3, hg3⟩
  have HC3 := Lib.hid hc3
  have HT3 := Lib.hid (HT2.out.kept hg3 (by simpa using hrb))
  have HG3 := Lib.hid (HG2.out.trans hg3)
  clear hc3 hg3 HC2 HT2 HG2
  go_wp2_with fail
  refine (l01Below_lit lo _ g cv 256 256 rfl (by omega) (by omega) HC3.out).mono ?_
  rintro e w4 ⟨x4, rfl, hx4, hc4, hg4⟩
  have HC4 := Lib.hid hc4
  have HT4 := Lib.hid (HT3.out.kept hg4 (by simpa using hrb))
  have HG4 := Lib.hid (HG3.out.trans hg4)
  clear hc4 hg4 HC3 HT3 HG3
  go_wp2_with fail
  refine (l01Below_lit lo _ g cv 16 16 rfl (by omega) (by omega) HC4.out).mono ?_
  rintro e w5 ⟨x5, rfl, hx5, hc5, hg5⟩
  have HC5 := Lib.hid hc5
  have HT5 := Lib.hid (HT4.out.kept hg5 (by simpa using hrb))
  have HG5 := Lib.hid (HG4.out.trans hg5)
  clear hc5 hg5 HC4 HT4 HG4
  go_wp2_with fail
  refine (l02Of_any n hn1 (by omega) _ w5).mono ?_
  rintro e w6 ⟨sl, xs, rfl, hp, ho, hb⟩
  obtain ⟨Y, cy, rfl, -, -, -⟩ := ho.form
  have HP := Lib.hid hp
  have hs5 := HG5.out.size
  have T6 := HT5.out.below hb
  have t0 := T6.1.1
  have t1 := T6.1.2
  have f0 := T6.2 0
  have f1 := T6.2 1
  have hw5 : w.heap.size < w5.heap.size := HT5.out.gt
  have HO := Lib.hid ((ho.kept (setCell_grown _ ⟨w.heap.size, 0, none⟩ (.int .i64 n)) (own_ne (fun k hk => (ho.lt k hk).1) hw5)).kept (setCell_grown _ ⟨w.heap.size, 1, none⟩ (.slice Y xs.length cy)) (own_ne (fun k hk => (ho.lt k hk).1) hw5))
  have HC := Lib.hid (((HC5.out.below hb).kept (setCell_grown _ ⟨w.heap.size, 0, none⟩ (.int .i64 n)) (fun k hk => by simp at hk; have := HC5.out.le; exact ⟨by omega, by omega⟩)).kept (setCell_grown _ ⟨w.heap.size, 1, none⟩ (.slice Y xs.length cy)) (fun k hk => by simp at hk; have := HC5.out.le; exact ⟨by omega, by omega⟩))
  have HG := Lib.hid (grown_newC (grown_newC (grown_belowC HG5.out (Below.mono hb (Nat.le_of_lt hw5))) (setCell_grown _ ⟨w.heap.size, 0, none⟩ (.int .i64 n)) (fun k hk => by simp at hk; omega)) (setCell_grown _ ⟨w.heap.size, 1, none⟩ (.slice Y xs.length cy)) (fun k hk => by simp at hk; omega))
  have R0 : Hid (((w6.setCell ⟨w.heap.size, 0, none⟩ (.int .i64 n)).setCell ⟨w.heap.size, 1, none⟩ (.slice Y xs.length cy)).cell? ⟨w.heap.size, 0, none⟩ = some (.int .i64 n)) := (World.cell?_setCell_other _ _ _ _ (by simp)).trans (World.cell?_setCell_same _ _ _ t0)
  have R1 : Hid (((w6.setCell ⟨w.heap.size, 0, none⟩ (.int .i64 n)).setCell ⟨w.heap.size, 1, none⟩ (.slice Y xs.length cy)).cell? ⟨w.heap.size, 1, none⟩ = some (.slice Y xs.length cy)) := World.cell?_setCell_same _ _ _ ((World.cell?_setCell_other _ _ _ _ (by simp)).trans t1)
  clear ho hb T6 hp HC5 HT5 HG5
  go_wp2
  have r0 := R0.out
  have r1 := R1.out
  refine bodyPost_ret (v := .agg #[.int .i64 n, .slice Y xs.length cy]) (by simp only [results, Tryz.results36]; simp [go_sem, r0, r1]) rfl ⟨n, _, xs, rfl, hn8, HP.out, HO.out.mono (by omega), HC.out, HG.out⟩
theorem perm_ins {i : Nat} (k : Nat) {S : List Int} (h : PermP i S) : PermP (i + 1) (S.take k ++ [(i : Int)] ++ S.drop k) := by
  have hp : (S.take k ++ [(i : Int)] ++ S.drop k).Perm ((i : Int) :: S) := by
    have h1 : (S.take k ++ [(i : Int)] ++ S.drop k) = S.take k ++ (i : Int) :: S.drop k := by simp
    rw [h1]
    refine List.perm_middle.trans ?_
    rw [List.take_append_drop]
  refine ⟨by rw [hp.length_eq, List.length_cons, h.1], fun x hx => ?_, ?_⟩
  · rcases List.mem_cons.1 (hp.mem_iff.1 hx) with rfl | hx
    · omega
    · have := h.2.1 x hx; omega
  · rw [hp.nodup_iff, List.nodup_cons]
    exact ⟨fun hm => by have := h.2.1 _ hm; omega, h.2.2⟩
set_option maxHeartbeats 8000000 in
theorem l02Order_any (lo : Nat) (w : World) (g : Nat) (cv : Value) (n : Nat) (hn8 : n ≤ 8) (hc : CurB lo w g cv) :
    Calls Tryz.prog 54 #[.pointer (some ⟨g, 0, none⟩), .int .i64 n] w fun e w' => ∃ (v : Value) (ns : List Int), e = .returned v ∧ PermP n ns ∧ Own w' w.heap.size v ns ∧ CurB lo w' g cv ∧ w.grownBy w' (some g) := by
  have hgw0 := hc.lt
  have HC0 := Lib.hid (hc.below (below_alloc1 w (.cells #[] 3)))
  have HG0 : Hid (w.grownBy (w.alloc (.cells #[] 3)) (some g)) := Lib.hid (grown_belowC ⟨rfl, rfl, rfl, Nat.le_refl _, fun _ _ _ => rfl⟩ (below_alloc1 _ _))
  have HL0 := Lib.hid (Own.lit w w.heap.size [] (Nat.le_refl _) (by simp))
  clear hc
  go_enter Tryz.func54, Tryz.ntmps54
  go_wp2
  go_loopw [5, 6] (fun l t wr => ∃ (i gl d : Nat) (S : List Int), i ≤ n ∧ t = .int .i64 i ∧ l = .slice (some ⟨gl, 0, none⟩) i d ∧ i ≤ d ∧ d ≤ 9223372036854775807 ∧ S.length = i ∧ Hid (PermP i S) ∧ Hid (Own wr w.heap.size (.slice (some ⟨gl, 0, none⟩) i d) S) ∧ Hid (CurB lo wr g cv) ∧ Hid (w.grownBy wr (some g))) (fun _ t _ => n - (intOf t).toNat)
  case atStart => exact ⟨0, _, 0, [], by omega, rfl, rfl, by omega, by omega, rfl, Lib.hid ⟨rfl, fun x hx => absurd hx (by simp), List.nodup_nil⟩, HL0, HC0, HG0⟩
  case round =>
    obtain ⟨wo, rfl⟩ : ∃ x, x = wr := ⟨_, rfl⟩
    obtain ⟨i, gl, d, S, hi, rfl, rfl, hid, hd, hSl, HP, HO, HC, HG⟩ := hrel
    clear HC0 HG0 HL0
    by_cases hlt : i < n
    · have ei : IntKind.i64.wrap ((i : Int) + 1) = ((i + 1 : Nat) : Int) := by rw [IntWalk.i64_in _ (by omega)]; rfl
      go_wp2_with fail
      refine (l01Below_lit lo _ g cv ((i : Int) + 1) (i + 1) (by omega) (by omega) (by omega) HC.out).mono ?_
      rintro e wp ⟨k, rfl, hk, hc1, hg1⟩
      have HO' := Lib.hid (HO.out.kept hg1 (own_ne (fun k hk => (HO.out.lt k hk).1) hgw0))
      have HC' := Lib.hid hc1
      have HG' := Lib.hid (HG.out.trans hg1)
      clear hc1 hg1 HO HC HG
      have HO := HO'
      have HC := HC'
      have HG := HG'
      clear HO' HC' HG'
      have hki : k ≤ i := by omega
      have hqt : (S.take k).length = k := by rw [List.length_take, hSl]; omega
      have hqd : (S.drop k).length = i - k := by rw [List.length_drop, hSl]
      have HE := Lib.hid (Own.lit wp wp.heap.size [] (Nat.le_refl _) (by simp))
      have bE := below_alloc1 wp (.cells #[] 3)
      have HOC := Lib.hid (fun (k : Nat) (hk : k < i) => (HO.out.at1 hSl (by omega)).1 k hk)
      have hgw := (HO.out.lt gl rfl).2
      have HC1 : Hid (∀ j, j < (S.take k).length → (wp.alloc (.cells #[] 3)).cell? ((⟨gl, 0, none⟩ : Addr).add j) = some (.int .i64 ((S.take k).getD j 0))) := fun j hj => by
        rw [hqt] at hj
        rw [Addr.add_lit, Nat.zero_add, bE.cell (p := ⟨gl, j, none⟩) hgw, HOC.out j (by omega)]
        simp [List.getD_eq_getElem?_getD, hj]
      have HBE := Lib.hid bE
      have HLN : Hid ((S.take k ++ [(i : Int)] ++ S.drop k).length = i + 1) := Lib.hid (by rw [List.length_append, List.length_append, hqt, hqd]; simp; omega)
      clear bE ei
      by_cases hdq : d = k
      case pos =>
            go_wp2_with (first
            | (at_builtin; refine wp_appendN (wp.alloc (.cells #[] 3)) rfl (.tmp 19) (.tmp 22) rfl wp.heap.size _ [] rfl HE.out ⟨gl, 0, none⟩ d (S.take k) (by rw [hqt]; simp [Act.eval] <;> omega) HC1.out (by simp; omega) (by simp) ?_; intro v1 w1 ho1 hg1; have HO1 : Hid (Own w1 wp.heap.size v1 (S.take k)) := ho1; have HB1 := Lib.hid (Below.grown HBE.out hg1 (by simp) (fun k hk => (HE.out.lt k hk).1)); clear ho1 hg1)
            | (at_builtin; refine wp_append1 w1 rfl (.tmp 24) (.tmp 26) rfl wp.heap.size _ (S.take k) (i : Int) rfl HO1.out (by simp [Act.eval]) (by omega) HB1.out.size ?_; intro v2 w2 ho2 hg2; have HO2 := Lib.hid ho2; have HB2 := Lib.hid (below_append HB1.out hg2 HO1.out (Nat.le_refl _) HB1.out.size); clear ho2 hg2)
            | (at_builtin; refine wp_appendN w2 rfl (.tmp 28) (.tmp 31) rfl wp.heap.size _ (S.take k ++ [(i : Int)]) rfl HO2.out ⟨gl, 0, none⟩ (d - k) (S.drop k) (by rw [hqd]; simp [Act.eval] <;> omega) (fun j hj => by rw [hqd] at hj; omega) (by simp; omega) HB2.out.size ?_; intro v3 w3 ho3 hg3; obtain ⟨Y3, c3, hv3, hc3, hl3, hY3⟩ := ho3.form; rw [HLN.out] at hv3 hl3 hY3; obtain ⟨g3, rfl, hg3a, hg3b⟩ := hY3 (by omega); subst hv3; have HO3 := Lib.hid ho3; have HB3 := Lib.hid (Below.grown HB2.out hg3 HB2.out.size (fun k hk => (HO2.out.lt k hk).1)); clear ho3 hg3))
            have hln := HLN.out
            unfold maxLen at hc3
            have HPN := Lib.hid (perm_ins k HP.out)
            have HCN := Lib.hid (HC.out.below HB3.out)
            have HGN := Lib.hid (grown_belowC HG.out (Below.mono HB3.out HG.out.size))
            have HON := Lib.hid (HO3.out.mono HG.out.size)
            go_roundw
            case rel => exact ⟨i + 1, g3, c3, _, by omega, by go_num, rfl, by omega, by omega, hln, HPN, HON, HCN, HGN⟩
            case measure => simp [intOf]; omega
      case neg =>
            go_wp2_with (first
            | (at_builtin; refine wp_appendN (wp.alloc (.cells #[] 3)) rfl (.tmp 19) (.tmp 22) rfl wp.heap.size _ [] rfl HE.out ⟨gl, 0, none⟩ d (S.take k) (by rw [hqt]; simp [Act.eval] <;> omega) HC1.out (by simp; omega) (by simp) ?_; intro v1 w1 ho1 hg1; have HO1 : Hid (Own w1 wp.heap.size v1 (S.take k)) := ho1; have HB1 := Lib.hid (Below.grown HBE.out hg1 (by simp) (fun k hk => (HE.out.lt k hk).1)); clear ho1 hg1)
            | (at_builtin; refine wp_append1 w1 rfl (.tmp 24) (.tmp 26) rfl wp.heap.size _ (S.take k) (i : Int) rfl HO1.out (by simp [Act.eval]) (by omega) HB1.out.size ?_; intro v2 w2 ho2 hg2; have HO2 := Lib.hid ho2; have HB2 := Lib.hid (below_append HB1.out hg2 HO1.out (Nat.le_refl _) HB1.out.size); clear ho2 hg2)
            | (at_builtin; refine wp_appendN w2 rfl (.tmp 28) (.tmp 31) rfl wp.heap.size _ (S.take k ++ [(i : Int)]) rfl HO2.out ⟨gl, k, none⟩ (d - k) (S.drop k) (by rw [hqd]; simp [Act.eval]) (fun j hj => by rw [Addr.add_lit, HB2.out.cell (p := ⟨gl, k + j, none⟩) hgw, HOC.out (k + j) (by omega)]; simp [List.getD_eq_getElem?_getD, List.getElem?_drop]) (by simp; omega) HB2.out.size ?_; intro v3 w3 ho3 hg3; obtain ⟨Y3, c3, hv3, hc3, hl3, hY3⟩ := ho3.form; rw [HLN.out] at hv3 hl3 hY3; obtain ⟨g3, rfl, hg3a, hg3b⟩ := hY3 (by omega); subst hv3; have HO3 := Lib.hid ho3; have HB3 := Lib.hid (Below.grown HB2.out hg3 HB2.out.size (fun k hk => (HO2.out.lt k hk).1)); clear ho3 hg3))
            have hln := HLN.out
            unfold maxLen at hc3
            have HPN := Lib.hid (perm_ins k HP.out)
            have HCN := Lib.hid (HC.out.below HB3.out)
            have HGN := Lib.hid (grown_belowC HG.out (Below.mono HB3.out HG.out.size))
            have HON := Lib.hid (HO3.out.mono HG.out.size)
            go_roundw
            case rel => exact ⟨i + 1, g3, c3, _, by omega, by go_num, rfl, by omega, by omega, hln, HPN, HON, HCN, HGN⟩
            case measure => simp [intOf]; omega
    · obtain rfl : n = i := by omega
      go_wp2
      go_ret
      exact ⟨_, S, rfl, HP.out, HO.out, HC.out, HG.out⟩
end Go.Proofs.YthoodjjjklbggaaGreatDoor

