/- Texts put together: Of, Cur. -/
import Derived.Test.YthoodjjjklbggaaDoorMRotational19
import Derived.Deep.RegionLaw
import Derived.Test.YthoodjjjklbggaaDoorMRotational01
namespace Go.Proofs.YthoodjjjklbggaaDoor
open Go.RowKit Go.Sort
set_option maxRecDepth 100000
theorem add_shlw (X b : Nat) (hb : b ≤ 61) (h : X + 2 ^ b ≤ 1000) : IntKind.i64.wrap ((X : Int) + IntKind.i64.wrap (2 ^ b)) = ((X + 2 ^ b : Nat) : Int) := by
  rw [IntWalk.i64_left, IntWalk.i64_left, shl_nat b hb, ← Int.natCast_add]
  exact wrap64_nat _ (by omega)
set_option maxHeartbeats 8000000 in
theorem l02Of_any (n : Nat) (h1 : 1 ≤ n) (h8 : n ≤ 8) (bs : Int) (w : World) :
    Calls Tryd.prog 70 #[.int .i64 n, .int .i64 bs] w fun e w' => ∃ sl xs, e = .returned (.agg #[.int .i64 n, sl]) ∧ tourP n xs ∧ Own w' w.heap.size sl xs ∧ Below w.heap.size w w' := by
  obtain ⟨i0, hi, hz0, hz1, hz2⟩ := info_parts i64_info
  have HT0 := Lib.hid (BoxF.new w 0 (.slice none 0 0) 25)
  have HB0 := Lib.hid (below_alloc1 w (.cells #[.int .i64 0, .slice none 0 0] 25))
  go_enter Tryd.func70, Tryd.ntmps70
  go_wp2_with (at_make; refine wpList_make_full _ rfl _ _ 23 rfl (w.heap.size + 1) 3 i0 (.int .i64 0) 1 Tryd.underlying23 hi hz0 hz1 _ _ _ _ n rfl rfl rfl rfl (by rw [hz2]; omega) (by unfold maxLen; omega) (by simp) ?_; intro w1 hown hg1; have HB1 := Lib.hid (Below.grown HB0.out hg1 HB0.out.size (by simp)); have HT1 := Lib.hid (HT0.out.kept hg1 (by simp)); have HOWN := Lib.hid hown; have HS1 := Lib.hid (World.ownsRow.lt hown); clear hown hg1)
  have HO1 : Hid (Own w1 (w.heap.size + 1) (.slice (some ⟨w.heap.size + 1, 0, none⟩) n n) (List.replicate n 0)) := by
    have ho := HOWN.out
    rw [ints_made'] at ho
    unfold Hid Own
    rw [List.length_replicate]
    have e : (w.alloc (.cells #[.int .i64 0, .slice none 0 0] 25)).heap.size = w.heap.size + 1 := by simp
    rw [e] at ho
    exact ho
  have hgl1 : w.heap.size + 1 < w1.heap.size := (HO1.out.lt (w.heap.size + 1) rfl).2
  have HU1 := Lib.hid (BoxF.new w1 n (.slice (some ⟨w.heap.size + 1, 0, none⟩) n n) 25)
  have hb2 := below_alloc1 w1 (.cells #[.int .i64 n, .slice (some ⟨w.heap.size + 1, 0, none⟩) n n] 25)
  have HO2 := Lib.hid ((HO1.out.below hb2).mono (show w.heap.size ≤ w.heap.size + 1 by omega))
  have HT2 := Lib.hid (HT1.out.below hb2)
  have HB2 := Lib.hid (Below.then HB1.out hb2)
  clear HOWN HS1 HO1 HT1 HB1 hb2 HT0 HB0
  generalize w1.alloc (.cells #[.int .i64 n, .slice (some ⟨w.heap.size + 1, 0, none⟩) n n] 25) = w2 at *
  obtain ⟨gu, hgu⟩ : ∃ gu, gu = w1.heap.size := ⟨_, rfl⟩
  obtain ⟨gl, hgl⟩ : ∃ gl, gl = w.heap.size + 1 := ⟨_, rfl⟩
  rw [← hgu] at HU1 hgl1 ⊢
  rw [← hgl] at HU1 HO2 hgl1 ⊢
  have hwl : w.heap.size < gl := by omega
  clear hgu hgl
  go_loopw [1, 6] (fun x i wr => ∃ (a : Nat) (y : Int) (N : List Int), a ≤ n ∧ i = .int .i64 a ∧ x = .int .i64 y ∧ Hid (HalfT n a (a + 1) N) ∧ Hid (Own wr w.heap.size (.slice (some ⟨gl, 0, none⟩) n n) N) ∧ Hid (BoxF wr gu n (.slice (some ⟨gl, 0, none⟩) n n)) ∧ Hid (BoxF wr w.heap.size 0 (.slice none 0 0)) ∧ Hid (Below w.heap.size w wr)) (fun _ i _ => n - (intOf i).toNat)
  case atStart => exact ⟨0, bs, _, by omega, rfl, rfl, Lib.hid (HalfT.start n), HO2, HU1, HT2, HB2⟩
  case round =>
    obtain ⟨wo, rfl⟩ : ∃ x, x = wr := ⟨_, rfl⟩
    obtain ⟨a, y, N, ha, rfl, rfl, HH, HO, HU, HT, HB⟩ := hrel
    clear HO2 HU1 HT2 HB2
    by_cases hlt : a < n
    · go_wp2
      go_loopw [1, 7] (fun x j wr => ∃ (b : Nat) (z : Int) (M : List Int), a < b ∧ b ≤ n ∧ j = .int .i64 b ∧ x = .int .i64 z ∧ Hid (HalfT n a b M) ∧ Hid (Own wr w.heap.size (.slice (some ⟨gl, 0, none⟩) n n) M) ∧ Hid (BoxF wr gu n (.slice (some ⟨gl, 0, none⟩) n n)) ∧ Hid (BoxF wr w.heap.size 0 (.slice none 0 0)) ∧ Hid (Below w.heap.size w wr)) (fun _ j _ => n - (intOf j).toNat)
      case atStart => exact ⟨a + 1, y, N, by omega, by omega, by go_num, rfl, HH, HO, HU, HT, HB⟩
      case round =>
        obtain ⟨wk, rfl⟩ : ∃ x, x = wr := ⟨_, rfl⟩
        clear HH HO HU HT HB
        obtain ⟨b, z, M, hab, hb, rfl, rfl, HH, HO, HU, HT, HB⟩ := hrel
        by_cases hlt2 : b < n
        · have hand := i64_and_one z
          rcases Int.emod_two_eq z with hbit | hbit
          · rw [hbit] at hand
            obtain ⟨X, eX, hX⟩ := HH.out.lt (x := b) (by omega)
            have hb2 : a ≤ 7 := by omega
            have hp7 : 2 ^ a ≤ 128 := Nat.pow_le_pow_right (n := 2) (j := 7) (by decide) hb2
            have hp8 : 2 ^ n ≤ 256 := Nat.pow_le_pow_right (n := 2) (j := 8) (by decide) h8
            have HG := Lib.hid (HH.out.game hab hlt2 (.inr ⟨rfl, rfl⟩) eX)
            have HV := Lib.hid (add_shlw X a (by omega) (by omega))
            obtain ⟨hxc, hfz⟩ := HO.out.at1 HH.out.1 (by omega)
            have z1 := hxc b (by omega)
            rw [eX] at z1
            have f1 := hfz b
            have O2 := (HO.out.set_ HH.out.1 b ((X + 2 ^ a : Nat) : Int)).1
            have hgr : wk.grownBy (wk.setCell ⟨gl, b, none⟩ (.int .i64 ((X + 2 ^ a : Nat) : Int))).drew (some gl) := (let q := setCell_grown wk ⟨gl, b, none⟩ (.int .i64 ((X + 2 ^ a : Nat) : Int)); ⟨q.os, q.tape, q.output, q.size, q.block⟩)
            have HO2 := Lib.hid (show Own (wk.setCell ⟨gl, b, none⟩ (.int .i64 ((X + 2 ^ a : Nat) : Int))).drew w.heap.size _ _ from O2)
            have HU2 := Lib.hid (show BoxF (wk.setCell ⟨gl, b, none⟩ (.int .i64 ((X + 2 ^ a : Nat) : Int))).drew gu n _ from HU.out.kept hgr (by simp; omega))
            have HT2 := Lib.hid (show BoxF (wk.setCell ⟨gl, b, none⟩ (.int .i64 ((X + 2 ^ a : Nat) : Int))).drew w.heap.size 0 _ from HT.out.kept hgr (by simp; omega))
            have HB2 := Lib.hid (show Below w.heap.size w (wk.setCell ⟨gl, b, none⟩ (.int .i64 ((X + 2 ^ a : Nat) : Int))).drew from (HB.out.setCell (p := ⟨gl, b, none⟩) (by show w.heap.size ≤ gl; omega) _).drew)
            have y1 := HU.out.1.2
            have un : b < n := by omega
            have uni : (b : Int) < (n : Int) := by omega
            clear hxc hfz O2 hgr hp7 hp8 hX eX HH HO HU HT HB
            go_wp2_with fail
            have hv1 := HV.out
            go_region_law (fail)
            all_goals
              rw [show ((X : Int) + 2 ^ a) = ((X + 2 ^ a : Nat) : Int) by simp]
              clear z1 f1 y1 hv1
              generalize (wk.setCell ⟨gl, b, none⟩ (.int .i64 ((X + 2 ^ a : Nat) : Int))).drew = w9 at HO2 HU2 HT2 HB2 ⊢
              go_wp2
              go_roundw
              case rel => exact ⟨b + 1, _, _, by omega, by omega, by go_num, rfl, HG, HO2, HU2, HT2, HB2⟩
              case measure => simp [intOf]; omega
          · rw [hbit] at hand
            obtain ⟨X, eX, hX⟩ := HH.out.lt (x := a) (by omega)
            have hb2 : b ≤ 7 := by omega
            have hp7 : 2 ^ b ≤ 128 := Nat.pow_le_pow_right (n := 2) (j := 7) (by decide) hb2
            have hp8 : 2 ^ n ≤ 256 := Nat.pow_le_pow_right (n := 2) (j := 8) (by decide) h8
            have HG := Lib.hid (HH.out.game hab hlt2 (.inl ⟨rfl, rfl⟩) eX)
            have HV := Lib.hid (add_shlw X b (by omega) (by omega))
            obtain ⟨hxc, hfz⟩ := HO.out.at1 HH.out.1 (by omega)
            have z1 := hxc a (by omega)
            rw [eX] at z1
            have f1 := hfz a
            have O2 := (HO.out.set_ HH.out.1 a ((X + 2 ^ b : Nat) : Int)).1
            have hgr : wk.grownBy (wk.setCell ⟨gl, a, none⟩ (.int .i64 ((X + 2 ^ b : Nat) : Int))).drew (some gl) := (let q := setCell_grown wk ⟨gl, a, none⟩ (.int .i64 ((X + 2 ^ b : Nat) : Int)); ⟨q.os, q.tape, q.output, q.size, q.block⟩)
            have HO2 := Lib.hid (show Own (wk.setCell ⟨gl, a, none⟩ (.int .i64 ((X + 2 ^ b : Nat) : Int))).drew w.heap.size _ _ from O2)
            have HU2 := Lib.hid (show BoxF (wk.setCell ⟨gl, a, none⟩ (.int .i64 ((X + 2 ^ b : Nat) : Int))).drew gu n _ from HU.out.kept hgr (by simp; omega))
            have HT2 := Lib.hid (show BoxF (wk.setCell ⟨gl, a, none⟩ (.int .i64 ((X + 2 ^ b : Nat) : Int))).drew w.heap.size 0 _ from HT.out.kept hgr (by simp; omega))
            have HB2 := Lib.hid (show Below w.heap.size w (wk.setCell ⟨gl, a, none⟩ (.int .i64 ((X + 2 ^ b : Nat) : Int))).drew from (HB.out.setCell (p := ⟨gl, a, none⟩) (by show w.heap.size ≤ gl; omega) _).drew)
            have y1 := HU.out.1.2
            have un : a < n := by omega
            have uni : (a : Int) < (n : Int) := by omega
            clear hxc hfz O2 hgr hp7 hp8 hX eX HH HO HU HT HB
            go_wp2_with fail
            have hv1 := HV.out
            go_region_law (fail)
            all_goals
              rw [show ((X : Int) + 2 ^ b) = ((X + 2 ^ b : Nat) : Int) by simp]
              clear z1 f1 y1 hv1
              generalize (wk.setCell ⟨gl, a, none⟩ (.int .i64 ((X + 2 ^ b : Nat) : Int))).drew = w9 at HO2 HU2 HT2 HB2 ⊢
              go_wp2
              go_roundw
              case rel => exact ⟨b + 1, _, _, by omega, by omega, by go_num, rfl, HG, HO2, HU2, HT2, HB2⟩
              case measure => simp [intOf]; omega
        · obtain rfl : b = n := by omega
          have HR := Lib.hid HH.out.row
          go_wp2
          go_roundw
          case rel => exact ⟨a + 1, _, _, by omega, by go_num, rfl, HR, HO, HU, HT, HB⟩
          case measure => simp [intOf]; omega
    · obtain rfl : a = n := by omega
      have HTR := Lib.hid (HH.out.tour h1 h8)
      have u0 := HU.out.1.1
      have u1 := HU.out.1.2
      have t0 := HT.out.1.1
      have t1 := HT.out.1.2
      have f0 := HT.out.2 0
      have f1 := HT.out.2 1
      have HO' := Lib.hid ((HO.out.kept (setCell_grown _ ⟨w.heap.size, 0, none⟩ (.int .i64 a)) (by right; simp [Value.ownBlock]; omega)).kept (setCell_grown _ ⟨w.heap.size, 1, none⟩ (.slice (some ⟨gl, 0, none⟩) a a)) (by right; simp [Value.ownBlock]; omega))
      have HB' := Lib.hid ((HB.out.setCell (p := ⟨w.heap.size, 0, none⟩) (Nat.le_refl _) (.int .i64 a)).setCell (p := ⟨w.heap.size, 1, none⟩) (Nat.le_refl _) (.slice (some ⟨gl, 0, none⟩) a a))
      have R0 : Hid (((wo.setCell ⟨w.heap.size, 0, none⟩ (.int .i64 a)).setCell ⟨w.heap.size, 1, none⟩ (.slice (some ⟨gl, 0, none⟩) a a)).cell? ⟨w.heap.size, 0, none⟩ = some (.int .i64 a)) := (World.cell?_setCell_other _ _ _ _ (by simp)).trans (World.cell?_setCell_same _ _ _ t0)
      have R1 : Hid (((wo.setCell ⟨w.heap.size, 0, none⟩ (.int .i64 a)).setCell ⟨w.heap.size, 1, none⟩ (.slice (some ⟨gl, 0, none⟩) a a)).cell? ⟨w.heap.size, 1, none⟩ = some (.slice (some ⟨gl, 0, none⟩) a a)) := World.cell?_setCell_same _ _ _ ((World.cell?_setCell_other _ _ _ _ (by simp)).trans t1)
      go_wp2
      have r0 := R0.out
      have r1 := R1.out
      refine bodyPost_ret (v := .agg #[.int .i64 a, .slice (some ⟨gl, 0, none⟩) a a]) (by simp only [results, Tryd.results70]; simp [go_sem, r0, r1]) rfl ⟨_, N, rfl, HTR.out, HO'.out, HB'.out⟩
end Go.Proofs.YthoodjjjklbggaaDoor

namespace Go.Proofs.YthoodjjjklbggaaDoor
open Go.RowKit Go.Sort
set_option maxRecDepth 100000
theorem i64_and_255 (x : Int) : ∃ n : Nat, n < 256 ∧ bits .and .i64 x 255 = (n : Int) := by
  refine ⟨(BitVec.ofInt 64 x &&& BitVec.ofInt 64 255).toNat, ?_, ?_⟩
  · rw [BitVec.toNat_and, show (BitVec.ofInt 64 255).toNat = 255 from rfl, nat_mask8]
    omega
  · have h : (BitVec.ofInt 64 x &&& BitVec.ofInt 64 255).toNat < 256 := by
      rw [BitVec.toNat_and, show (BitVec.ofInt 64 255).toNat = 255 from rfl, nat_mask8]
      omega
    show IntKind.i64.wrap ((BitVec.ofInt 64 x &&& BitVec.ofInt 64 255).toNat : Int) = _
    rw [IntKind.wrap_i64]
    omega
/-- a slice of bytes in a block below lo -/
def BytesV (w : World) (lo : Nat) (v : Value) : Prop := ∃ (A : Option Addr) (n c : Nat), v = .slice A n c ∧ n ≤ c ∧ c ≤ maxLen ∧
    (0 < n → ∃ b off, A = some ⟨b, off, none⟩ ∧ b < lo ∧ ∀ k, k < n → ∃ x : Nat, x < 256 ∧ w.cell? ⟨b, off + k, none⟩ = some (.int .u8 x))
theorem BytesV.keep {w w' : World} {lo : Nat} {v : Value} (h : BytesV w lo v) (hb : ∀ p : Addr, p.block < lo → w'.cell? p = w.cell? p) : BytesV w' lo v := by
  obtain ⟨A, n, c, rfl, h1, h2, h3⟩ := h
  refine ⟨A, n, c, rfl, h1, h2, fun h0 => ?_⟩
  obtain ⟨b, off, rfl, hlt, hc⟩ := h3 h0
  refine ⟨b, off, rfl, hlt, fun k hk => ?_⟩
  obtain ⟨x, hx, e⟩ := hc k hk
  exact ⟨x, hx, by rw [hb ⟨b, off + k, none⟩ hlt]; exact e⟩
theorem BytesV.mono {w : World} {lo hi : Nat} {v : Value} (h : BytesV w lo v) (hl : lo ≤ hi) : BytesV w hi v := by
  obtain ⟨A, n, c, rfl, h1, h2, h3⟩ := h
  refine ⟨A, n, c, rfl, h1, h2, fun h0 => ?_⟩
  obtain ⟨b, off, rfl, hlt, hc⟩ := h3 h0
  exact ⟨b, off, rfl, by omega, hc⟩
/-- the cursor in its box g, over bytes below lo -/
structure CurB (lo : Nat) (w : World) (g : Nat) (v : Value) : Prop where
  cells : ∃ (i : Nat) (h : Int), w.cell? ⟨g, 0, none⟩ = some v ∧ w.cell? ⟨g, 1, none⟩ = some (.int .i64 i) ∧ w.cell? ⟨g, 2, none⟩ = some (.int .i64 h)
  frz : ∀ k, w.frozen? ⟨g, k, none⟩ = false
  bytes : BytesV w lo v
  le : lo ≤ g
theorem CurB.lt {lo : Nat} {w : World} {g : Nat} {v : Value} (h : CurB lo w g v) : g < w.heap.size := by
  obtain ⟨i, h, e, -⟩ := h.cells
  exact World.block_lt_of_cell? w _ e
theorem CurB.kept {lo : Nat} {w w' : World} {g : Nat} {v : Value} {row : Option Nat} (h : CurB lo w g v) (hg : w.grownBy w' row) (hne : ∀ k, row = some k → lo ≤ k ∧ k ≠ g) : CurB lo w' g v := by
  have hlt := h.lt
  have hb := hg.block g hlt (fun e => (hne g e.symm).2 rfl)
  obtain ⟨i, x, e0, e1, e2⟩ := h.cells
  refine ⟨⟨i, x, (World.cell?_of_block hb).trans e0, (World.cell?_of_block hb).trans e1, (World.cell?_of_block hb).trans e2⟩, fun k => (World.frozen?_of_block hb).trans (h.frz k), h.bytes.keep fun p hp => World.cell?_of_block (hg.block p.block (by have := h.le; omega) (fun e => by have := (hne _ e.symm).1; omega)), h.le⟩
theorem CurB.below {lo : Nat} {w w' : World} {g : Nat} {v : Value} (h : CurB lo w g v) (hb : Below w.heap.size w w') : CurB lo w' g v := by
  have hlt := h.lt
  obtain ⟨i, x, e0, e1, e2⟩ := h.cells
  exact ⟨⟨i, x, (hb.cell (p := ⟨g, 0, none⟩) hlt).trans e0, (hb.cell (p := ⟨g, 1, none⟩) hlt).trans e1, (hb.cell (p := ⟨g, 2, none⟩) hlt).trans e2⟩, fun k => ((bcell hb).2 _ _ hlt).trans (h.frz k), h.bytes.keep fun p hp => hb.cell (by have := h.le; omega), h.le⟩
theorem below_cur {w w' : World} {g : Nat} (hg : w.grownBy w' (some g)) {B : Nat} (hB : B ≤ g) (hs : B ≤ w.heap.size) : Below B w w' := (Below.refl B w).grown hg hs (fun k e => by injection e with e; omega)
theorem set3 {lo : Nat} {w : World} {g : Nat} {v : Value} (h : CurB lo w g v) (k : Nat) (y : Int) (hk : k = 2 ∨ (k = 1 ∧ 0 ≤ y)) : CurB lo (w.setCell ⟨g, k, none⟩ (.int .i64 y)) g v ∧ w.grownBy (w.setCell ⟨g, k, none⟩ (.int .i64 y)) (some g) := by
  obtain ⟨i, x, e0, e1, e2⟩ := h.cells
  have hgr : w.grownBy (w.setCell ⟨g, k, none⟩ (.int .i64 y)) (some g) := setCell_grown _ ⟨g, k, none⟩ _
  refine ⟨⟨?_, fun j => by have := h.frz j; simpa [go_sem] using this, h.bytes.keep fun p hp => World.cell?_of_block (hgr.block p.block (by have := h.le; have := h.lt; omega) (fun e => by injection e with e; have := h.le; omega)), h.le⟩, hgr⟩
  rcases hk with rfl | ⟨rfl, hy⟩
  · exact ⟨i, y, (World.cell?_setCell_other _ _ _ _ (by simp)).trans e0, (World.cell?_setCell_other _ _ _ _ (by simp)).trans e1, World.cell?_setCell_same _ _ _ e2⟩
  · obtain ⟨n, rfl⟩ := Int.eq_ofNat_of_zero_le hy
    exact ⟨n, x, (World.cell?_setCell_other _ _ _ _ (by simp)).trans e0, World.cell?_setCell_same _ _ _ e1, (World.cell?_setCell_other _ _ _ _ (by simp)).trans e2⟩
theorem CurB.drew {lo : Nat} {w : World} {g : Nat} {v : Value} (h : CurB lo w g v) : CurB lo w.drew g v := ⟨h.cells, h.frz, h.bytes, h.le⟩
/-- one block and what is new -/
theorem grown_belowC {w w1 w2 : World} {g : Nat} (h : w.grownBy w1 (some g)) (hb : Below w.heap.size w1 w2) : w.grownBy w2 (some g) :=
  ⟨hb.os.trans h.os, hb.tape.trans h.tape, hb.output.trans h.output, Nat.le_trans h.size hb.size, fun k hk hne => (hb.block k hk).trans (h.block k hk hne)⟩
theorem grown_newC {w w1 w2 : World} {g : Nat} {row : Option Nat} (h : w.grownBy w1 (some g)) (hg : w1.grownBy w2 row) (hr : ∀ k, row = some k → w.heap.size ≤ k) : w.grownBy w2 (some g) :=
  grown_belowC h ((Below.refl w.heap.size w1).grown hg h.size hr)
theorem grown_drew {w w1 : World} {row : Option Nat} (h : w.grownBy w1 row) : w.grownBy w1.drew row := ⟨h.os, h.tape, h.output, h.size, h.block⟩
theorem other_mod {a y C : Nat} (ha : a < C) (hy : y < C - 1) : (a + 1 + y) % C < C ∧ (a + 1 + y) % C ≠ a := by
  refine ⟨Nat.mod_lt _ (by omega), ?_⟩
  rcases Nat.lt_or_ge (a + 1 + y) C with h | h
  · rw [Nat.mod_eq_of_lt h]; omega
  · rw [Nat.mod_eq_sub_mod h, Nat.mod_eq_of_lt (by omega)]; omega
theorem other_ex {a y C : Nat} (ha : a < C) (hy : y < C - 1) : ∃ b : Nat, Int.tmod ((a : Int) + 1 + (y : Int)) (C : Int) = (b : Int) ∧ b < C ∧ b ≠ a :=
  ⟨(a + 1 + y) % C, by rw [Int.tmod_eq_emod_of_nonneg (by omega)]; simp, (other_mod ha hy).1, (other_mod ha hy).2⟩
set_option maxHeartbeats 4000000 in
theorem l01Byte_any (lo : Nat) (w : World) (g : Nat) (v : Value) (hc : CurB lo w g v) :
    Calls Tryd.prog 57 #[.pointer (some ⟨g, 0, none⟩)] w fun e w' => ∃ x : Nat, e = .returned (.int .i64 x) ∧ x < 256 ∧ CurB lo w' g v ∧ w.grownBy w' (some g) := by
  have hg := hc.lt
  have HC := Lib.hid hc
  obtain ⟨i, h, z0, z1, z2⟩ := hc.cells
  have f2 := hc.frz 2
  clear hc
  obtain ⟨h1, eh1⟩ : ∃ h1, IntKind.i64.wrap (h * 6364136223846793005) = h1 := ⟨_, rfl⟩
  obtain ⟨h2, eh2⟩ : ∃ h2, IntKind.i64.wrap (h1 + 1442695040888963407) = h2 := ⟨_, rfl⟩
  obtain ⟨C2, G2⟩ := set3 HC.out 2 h2 (.inl rfl)
  have HC2 := Lib.hid C2
  have HG2 := Lib.hid G2
  clear C2 G2 HC
  go_enter Tryd.func57, Tryd.ntmps57
  go_wp2_with fail
  have g0 : (w.setCell ⟨g, 2, none⟩ (.int .i64 h2)).cell? ⟨g, 0, none⟩ = some v := (World.cell?_setCell_other _ _ _ _ (by simp)).trans z0
  have g1 : (w.setCell ⟨g, 2, none⟩ (.int .i64 h2)).cell? ⟨g, 1, none⟩ = some (.int .i64 i) := (World.cell?_setCell_other _ _ _ _ (by simp)).trans z1
  have g2 : (w.setCell ⟨g, 2, none⟩ (.int .i64 h2)).cell? ⟨g, 2, none⟩ = some (.int .i64 h2) := World.cell?_setCell_same _ _ _ z2
  clear z0 z1 z2 f2 eh1 eh2
  generalize w.setCell ⟨g, 2, none⟩ (.int .i64 h2) = w1 at *
  have hg1 : g < w1.heap.size := HC2.out.lt
  obtain ⟨x, hx, ex⟩ := i64_and_255 (bits .xor .i64 (h2 / 8589934592) (h2 / 35184372088832))
  have c2 := cell_regrown g2
  refine wp_region_below (by kernel_rfl) (by kernel_rfl) ?_
  repeat (go_big_quiet_step (first | (with_reducible fail)))
  refine wpQuiet_nil ?_
  intro wq hbq0
  have g0' := (hbq0.cell (p := ⟨g, 0, none⟩) hg1).trans g0
  have g1' := (hbq0.cell (p := ⟨g, 1, none⟩) hg1).trans g1
  have HC3 := Lib.hid (HC2.out.below hbq0)
  have HG3 : Hid (w.grownBy wq (some g)) := Lib.hid ⟨hbq0.os.trans HG2.out.os, hbq0.tape.trans HG2.out.tape, hbq0.output.trans HG2.out.output, Nat.le_trans HG2.out.size hbq0.size, fun k hk hne => (hbq0.block k (Nat.lt_of_lt_of_le hk HG2.out.size)).trans (HG2.out.block k hk hne)⟩
  clear hbq0 c2 g0 g1 g2 ex HC2 HG2
  obtain ⟨A, n, cc, rfl, hnc, hcc, hbc⟩ := HC3.out.bytes
  unfold maxLen at hcc
  by_cases hlt : i < n
  · obtain ⟨b, off, rfl, hb, hbk⟩ := hbc (by omega)
    obtain ⟨y, hy, zy⟩ := hbk i hlt
    obtain ⟨z, hz, ez⟩ := i64_and_255 ((x : Int) + (y : Int))
    have ey : IntKind.i64.wrap (y : Int) = (y : Int) := IntWalk.i64_in _ (by omega)
    have exy : IntKind.i64.wrap ((x : Int) + (y : Int)) = (x : Int) + (y : Int) := IntWalk.i64_in _ (by omega)
    have ei : IntKind.i64.wrap ((i : Int) + 1) = (i : Int) + 1 := IntWalk.i64_in _ (by omega)
    have hlo := HC3.out.le
    have hgq := HC3.out.lt
    have hbq : b < wq.heap.size := by omega
    go_wp2_with fail
    have k0 := cell_regrown g0'
    have k1 := cell_regrown g1'
    refine wp_region_below (by kernel_rfl) (by kernel_rfl) ?_
    repeat (go_big_quiet_step (first | (with_reducible fail)))
    refine wpQuiet_nil ?_
    intro wr hbq1
    have h0' := (hbq1.cell (p := ⟨g, 0, none⟩) hgq).trans g0'
    have h1' := (hbq1.cell (p := ⟨g, 1, none⟩) hgq).trans g1'
    have zy' := (hbq1.cell (p := ⟨b, off + i, none⟩) hbq).trans zy
    have HC4 := Lib.hid (HC3.out.below hbq1)
    have HG4 : Hid (w.grownBy wr (some g)) := Lib.hid ⟨hbq1.os.trans HG3.out.os, hbq1.tape.trans HG3.out.tape, hbq1.output.trans HG3.out.output, Nat.le_trans HG3.out.size hbq1.size, fun k hk hne => (hbq1.block k (Nat.lt_of_lt_of_le hk HG3.out.size)).trans (HG3.out.block k hk hne)⟩
    clear hbq1 k0 k1 g0' g1' zy HC3 HG3
    have hgr := HC4.out.lt
    have hbr : b < wr.heap.size := by omega
    go_wp2_with fail
    have k0 := cell_regrown h0'
    have k1 := cell_regrown h1'
    have k2 := cell_regrown zy'
    refine wp_region_below (by kernel_rfl) (by kernel_rfl) ?_
    repeat (go_big_quiet_step (first | (with_reducible fail)))
    refine wpQuiet_nil ?_
    intro ws hbq2
    have h1' := (hbq2.cell (p := ⟨g, 1, none⟩) hgr).trans h1'
    have HC5 := Lib.hid (HC4.out.below hbq2)
    have HG5 : Hid (w.grownBy ws (some g)) := Lib.hid ⟨hbq2.os.trans HG4.out.os, hbq2.tape.trans HG4.out.tape, hbq2.output.trans HG4.out.output, Nat.le_trans HG4.out.size hbq2.size, fun k hk hne => (hbq2.block k (Nat.lt_of_lt_of_le hk HG4.out.size)).trans (HG4.out.block k hk hne)⟩
    clear hbq2 k0 k1 k2 h0' zy' HC4 HG4
    obtain ⟨C6, G6⟩ := set3 HC5.out 1 ((i : Int) + 1) (.inr ⟨rfl, by omega⟩)
    have HC6 := Lib.hid C6
    have HG6 := Lib.hid (HG5.out.trans G6)
    have f1 := HC5.out.frz 1
    clear C6 G6
    go_wp2
    go_ret
    exact ⟨z, rfl, hz, HC6.out, HG6.out⟩
  · go_wp2_with fail
    have k0 := cell_regrown g0'
    have k1 := cell_regrown g1'
    refine wp_region_below (by kernel_rfl) (by kernel_rfl) ?_
    repeat (go_big_quiet_step (first | (with_reducible fail)))
    refine wpQuiet_nil ?_
    intro wr hbq1
    have HC4 := Lib.hid (HC3.out.below hbq1)
    have HG4 : Hid (w.grownBy wr (some g)) := Lib.hid ⟨hbq1.os.trans HG3.out.os, hbq1.tape.trans HG3.out.tape, hbq1.output.trans HG3.out.output, Nat.le_trans HG3.out.size hbq1.size, fun k hk hne => (hbq1.block k (Nat.lt_of_lt_of_le hk HG3.out.size)).trans (HG3.out.block k hk hne)⟩
    clear hbq1 k0 k1 g0' g1' HC3 HG3
    go_wp2
    go_ret
    exact ⟨x, rfl, hx, HC4.out, HG4.out⟩
set_option maxHeartbeats 4000000 in
theorem l01Below_any (lo : Nat) (w : World) (g : Nat) (v : Value) (n : Nat) (hn : 1 ≤ n) (hn2 : n ≤ 256) (hc : CurB lo w g v) :
    Calls Tryd.prog 71 #[.pointer (some ⟨g, 0, none⟩), .int .i64 n] w fun e w' => ∃ x : Nat, e = .returned (.int .i64 x) ∧ x < n ∧ CurB lo w' g v ∧ w.grownBy w' (some g) := by
  have HC := Lib.hid hc
  clear hc
  go_enter Tryd.func71, Tryd.ntmps71
  go_wp2_with fail
  refine (l01Byte_any lo _ g v HC.out).mono ?_
  rintro e w1 ⟨x, rfl, hx, hc1, hg1⟩
  have HC1 := Lib.hid hc1
  have HG1 := Lib.hid hg1
  clear hc1 hg1
  have e0 : (x : Int) % (n : Int) = ((x % n : Nat) : Int) := by simp
  have hxn := Nat.mod_lt x (show 0 < n by omega)
  go_wp2
  go_ret
  exact ⟨x % n, ret_int (by simp), hxn, HC1.out, HG1.out⟩
theorem l01Below_lit (lo : Nat) (w : World) (g : Nat) (v : Value) (k : Int) (n : Nat) (hk : k = n) (hn : 1 ≤ n) (hn2 : n ≤ 256) (hc : CurB lo w g v) :
    Calls Tryd.prog 71 #[.pointer (some ⟨g, 0, none⟩), .int .i64 k] w fun e w' => ∃ x : Nat, e = .returned (.int .i64 x) ∧ x < n ∧ CurB lo w' g v ∧ w.grownBy w' (some g) := by
  subst hk
  exact l01Below_any lo w g v n hn hn2 hc
set_option maxHeartbeats 4000000 in
theorem l01New_any (w : World) (v : Value) (hv : BytesV w w.heap.size v) :
    Calls Tryd.prog 56 #[v] w fun e w' => ∃ g, e = .returned (.pointer (some ⟨g, 0, none⟩)) ∧ CurB w.heap.size w' g v ∧ Below w.heap.size w w' := by
  have HV := Lib.hid hv
  obtain ⟨A, n, c, rfl, hnc, hcc, hbc⟩ := hv
  unfold maxLen at hcc
  have HBC := Lib.hid hbc
  clear hbc
  go_enter Tryd.func56, Tryd.ntmps56
  go_wp2
  go_loop [3, 4] (fun h i => ∃ (x : Int) (k : Nat), k ≤ n ∧ k ≤ 4000 ∧ h = .int .i64 x ∧ i = .int .i64 k) (fun _ i => 4000 - (intOf i).toNat)
  case atStart => exact ⟨_, 0, by omega, by omega, rfl, rfl⟩
  case round =>
    obtain ⟨x, k, hk, hk4, rfl, rfl⟩ := hrel
    by_cases hlt : k < n
    · by_cases h4 : k < 4000
      · obtain ⟨b, off, rfl, hb, hbk⟩ := HBC.out (by omega)
        obtain ⟨y, hy, zy⟩ := hbk k hlt
        have ek : IntKind.i64.wrap ((k : Int) + 1) = (k : Int) + 1 := IntWalk.i64_in _ (by omega)
        clear hbk
        go_wp2
        go_round
        case rel => exact ⟨_, k + 1, by omega, by omega, rfl, by go_num⟩
        case measure => simp [intOf]; omega
      · have hd4 : decide ((k : Int) < 4000) = false := by simp; omega
        go_wp2
        go_ret
        refine ⟨_, rfl, ⟨⟨0, _, by simp, by simp, by simp; rfl⟩, fun k => by simp, HV.out.keep fun p hp => ?_, Nat.le_refl _⟩, below_alloc1 _ _⟩
        exact (below_alloc1 w _).cell hp
    · go_wp2
      go_ret
      refine ⟨_, rfl, ⟨⟨0, _, by simp, by simp, by simp; rfl⟩, fun k => by simp, HV.out.keep fun p hp => ?_, Nat.le_refl _⟩, below_alloc1 _ _⟩
      exact (below_alloc1 w _).cell hp
set_option maxHeartbeats 4000000 in
theorem l32New_any (w : World) (v : Value) (n : Nat) (hn : n ≤ 1000) (hv : BytesV w w.heap.size v) :
    Calls Tryd.prog 26 #[v, .int .i64 n] w fun e w' => ∃ g, e = .returned (.pointer (some ⟨g, 0, none⟩)) ∧ CurB w.heap.size w' g v ∧ Below w.heap.size w w' := by
  have HV := Lib.hid hv
  clear hv
  go_enter Tryd.func26, Tryd.ntmps26
  go_wp2_with fail
  refine (l01New_any w v HV.out).mono ?_
  rintro e w1 ⟨g, rfl, hc1, hb1⟩
  have HC1 := Lib.hid hc1
  have HB1 := Lib.hid hb1
  clear hc1 hb1
  go_wp2
  go_loopw [6] (fun i wr => ∃ k : Nat, k ≤ n ∧ i = .int .i64 k ∧ Hid (CurB w.heap.size wr g v) ∧ Hid (Below w.heap.size w wr)) (fun i _ => n - (intOf i).toNat)
  case atStart => exact ⟨0, by omega, rfl, HC1, HB1⟩
  case round =>
    obtain ⟨wo, rfl⟩ : ∃ x, x = wr := ⟨_, rfl⟩
    obtain ⟨k, hk, rfl, HC, HB⟩ := hrel
    by_cases hlt : k < n
    · have ek : IntKind.i64.wrap ((k : Int) + 1) = (k : Int) + 1 := IntWalk.i64_in _ (by omega)
      go_wp2_with fail
      refine (l01Byte_any w.heap.size _ g v HC.out).mono ?_
      rintro e w2 ⟨x, rfl, hx, hc2, hg2⟩
      have HC2 := Lib.hid hc2
      have HB2 := Lib.hid (HB.out.trans (below_cur hg2 HC.out.le HB.out.size))
      clear hc2 hg2
      go_wp2
      go_roundw
      case rel => exact ⟨k + 1, by omega, by go_num, HC2, HB2⟩
      case measure => simp [intOf]; omega
    · obtain rfl : n = k := by omega
      go_wp2
      go_ret
      exact ⟨g, rfl, HC.out, HB.out⟩
theorem l32New_lit (w : World) (v : Value) (k : Int) (n : Nat) (hk : k = n) (hn : n ≤ 1000) (hv : BytesV w w.heap.size v) :
    Calls Tryd.prog 26 #[v, .int .i64 k] w fun e w' => ∃ g, e = .returned (.pointer (some ⟨g, 0, none⟩)) ∧ CurB w.heap.size w' g v ∧ Below w.heap.size w w' := by
  subst hk
  exact l32New_any w v n hn hv
end Go.Proofs.YthoodjjjklbggaaDoor

