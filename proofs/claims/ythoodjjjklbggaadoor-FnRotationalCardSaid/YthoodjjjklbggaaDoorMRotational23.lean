/- Texts put together: ShGrow, Conc, Pfaf, ShDel, DelO. -/
import Derived.Ground.Names8Prog
import Derived.Shelf.Spec.SlicesGrow
import Derived.Test.YthoodjjjklbggaaDoorMRotational01
import Derived.Test.YthoodjjjklbggaaDoorMRotational04
import Derived.Test.YthoodjjjklbggaaDoorMRotational11
import Derived.Test.YthoodjjjklbggaaDoorMRotational09
import Derived.Deep.RegionHeld3
import Derived.Ground.Names2Prog
import Derived.Shelf.Slices.Clone
import Derived.Shelf.Slices.Delete
import Derived.Shelf.Slices.Cells
import Derived.Shelf.Slices.Empties
namespace Go.Proofs.YthoodjjjklbggaaDoor
open Go.Shelf
def laysGrow_ren : Go.Shelf.Ren := ⟨fun | 4 => 88 | n => n, fun | 22 => 23 | 25 => 3 | 3 => 3 | 4 => 4 | 9 => 9 | 20 => 20 | 0 => 0 | n => n, fun | n => n⟩
theorem laysGrow : Go.Proofs.Lays8.n4 Tryd.prog laysGrow_ren := {
  mixed := by kernel_rfl
  f4 := ⟨Tryd.f88.name, by decide, Tryd.func88.trans (congrArg some (by kernel_rfl))⟩
  t0 := Tryd.underlying0
  a0 := Tryd.isAgg0
  z0 := Tryd.sizeOf0
  v0 := Tryd.zeroValue0
  t3 := Tryd.underlying3
  a3 := Tryd.isAgg3
  z3 := Tryd.sizeOf3
  v3 := Tryd.zeroValue3
  t4 := Tryd.underlying4
  a4 := Tryd.isAgg4
  z4 := Tryd.sizeOf4
  v4 := Tryd.zeroValue4
  t9 := Tryd.underlying9
  a9 := Tryd.isAgg9
  z9 := Tryd.sizeOf9
  v9 := Tryd.zeroValue9
  t20 := Tryd.underlying20
  a20 := Tryd.isAgg20
  z20 := Tryd.sizeOf20
  v20 := Tryd.zeroValue20
  t22 := Tryd.underlying23
  a22 := Tryd.isAgg23
  z22 := Tryd.sizeOf23
  v22 := Tryd.zeroValue23 }
end Go.Proofs.YthoodjjjklbggaaDoor

namespace Go.Proofs.YthoodjjjklbggaaDoor
open Go.RowKit Go.Sort
set_option maxRecDepth 100000
/-- a read of a row whose address is known -/
def RdA (w : World) (a : Addr) (xs : List Int) : Prop := ∀ k, k < xs.length → w.cell? (a.add k) = some (.int .i64 (xs.getD k 0))
theorem RdA.below {w w' : World} {a : Addr} {xs : List Int} (h : RdA w a xs) (hb : Below w.heap.size w w') : RdA w' a xs := fun k hk => by
  have := h k hk
  exact (hb.cell (World.block_lt_of_cell? _ _ this)).trans this
theorem grow_any (n : Nat) (w : World) (hn : n ≤ 1000) :
    Calls Tryd.prog 88 #[.slice none 0 0, .int .i64 n] w fun e w' => ∃ v', e = .returned v' ∧ Own w' w.heap.size v' [] ∧ Below w.heap.size w w' := by
  rcases Nat.eq_zero_or_pos n with h0 | h0
  · subst h0
    refine (Any8.slices_Grow_room laysGrow none 0 0 0 w (by omega) (by omega) (by omega) (by omega)).mono ?_
    rintro e w' ⟨rfl, rfl⟩
    exact ⟨_, rfl, Own.nil_ _ _, Below.refl _ _⟩
  · obtain ⟨i0, hi, hz0, hz1, hz2⟩ := info_parts i64_info
    refine (Any8.slices_Grow_grow laysGrow i0 (.int .i64 0) hi hz0 (by rw [hz1]; decide) none 0 0 n [] w (by omega) (by omega) (by rw [hz2]; omega) (by omega) (by simp) (fun _ => rfl) (fun a h => by cases h)).mono ?_
    rintro e w' ⟨rfl, rfl⟩
    have hge := grownCap_ge w (0 + n) 0 3
    have hle := grownCap_le_maxLen w (0 + n) 0 3 (by unfold maxLen; omega)
    refine ⟨_, rfl, ⟨rfl, .inr ⟨w.heap.size, _, _, rfl, Nat.le_refl _, (Array.getElem?_push_size (xs := w.drew.heap)), Nat.zero_le _, hle, ?_, ?_⟩⟩, ?_⟩
    · show _ = grownCap w (0 + n) 0 3 * 1
      have e : (Builtin.zeroCells (Value.int IntKind.i64 0).cells (0 + n - 0)).size + (Builtin.zeroCells (Value.int IntKind.i64 0).cells (grownCap w (0 + n) 0 3 - (0 + n))).size = grownCap w (0 + n) 0 3 := by
        have h1 : (Value.int IntKind.i64 0).cells.size = 1 := rfl
        generalize grownCap w (0 + n) 0 3 = q at *
        simp [Builtin.zeroCells, h1]
        omega
      rw [Nat.mul_one]
      refine Eq.trans ?_ e
      simp
      rfl
    · simp
    · exact (Below.refl _ _).drew.alloc (by simp) _
set_option maxHeartbeats 2000000 in
theorem concat2_any (g off cc : Nat) (a1 a2 : Addr) (c1 c2 : Nat) (xs ys : List Int) (w : World) (h0 : w.cell? ⟨g, off, none⟩ = some (.slice (some a1) xs.length c1)) (h1 : w.cell? ⟨g, off + 1, none⟩ = some (.slice (some a2) ys.length c2))
    (hx : RdA w a1 xs) (hy : RdA w a2 ys) (hl : xs.length + ys.length ≤ 1000) :
    Calls Tryd.prog 82 #[.slice (some ⟨g, off, none⟩) 2 cc] w fun e w' => ∃ v', e = .returned v' ∧ Own w' w.heap.size v' (xs ++ ys) ∧ Below w.heap.size w w' := by
  have HX := Lib.hid hx
  have HY := Lib.hid hy
  obtain ⟨n, hn⟩ : ∃ n, n = xs.length := ⟨_, rfl⟩
  obtain ⟨m, hm⟩ : ∃ m, m = ys.length := ⟨_, rfl⟩
  have HN := Lib.hid hn
  have HM := Lib.hid hm
  rw [← hn, ← hm] at hl
  rw [← hn] at h0
  rw [← hm] at h1
  have C0 := Lib.hid h0
  have C1 := Lib.hid h1
  clear hx hy hn hm h0 h1
  have hg0 := World.block_lt_of_cell? _ _ C0.out
  go_enter Tryd.func82, Tryd.ntmps82
  go_wp2
  go_loop [3, 11] (fun t3 t11 => ∃ (j s : Nat), j ≤ 2 ∧ t11 = .int .i64 j ∧ t3 = .int .i64 s ∧ ((j = 0 ∧ s = 0) ∨ (j = 1 ∧ s = n) ∨ (j = 2 ∧ s = n + m))) (fun _ t11 => 2 - (intOf t11).toNat)
  case atStart => exact ⟨0, 0, by omega, rfl, rfl, by omega⟩
  case round =>
    obtain ⟨j, s, hj, rfl, rfl, hjs⟩ := hrel
    rcases hjs with ⟨rfl, rfl⟩ | ⟨rfl, rfl⟩ | ⟨rfl, rfl⟩
    · have y0 := C0.out
      go_wp2
      go_round
      case rel => exact ⟨1, n, by omega, by go_num, by go_num, by omega⟩
      case measure => simp [intOf]
    · have y0 := C1.out
      go_wp2
      go_round
      case rel => exact ⟨2, s + m, by omega, by go_num, by go_num, by omega⟩
      case measure => simp [intOf]
    · go_wp2_with fail
      refine (grow_any (n + m) _ (by omega)).mono ?_
      rintro e w2 ⟨v2, rfl, ho2, hb2⟩
      have HO2 := Lib.hid ho2
      have HB2 := Lib.hid hb2
      have hs2 := hb2.size
      clear ho2 hb2
      go_wp2
      go_loopw [6, 27] (fun t6 t27 wr => ∃ (j : Nat) (v : Value), j ≤ 2 ∧ t27 = .int .i64 j ∧ v = t6 ∧ Hid (Own wr w.heap.size v (if j = 0 then [] else if j = 1 then xs else xs ++ ys)) ∧ Hid (Below w.heap.size w wr)) (fun _ t27 _ => 2 - (intOf t27).toNat)
      case atStart => exact ⟨0, _, by omega, rfl, rfl, HO2, HB2⟩
      case round =>
        obtain ⟨wi, rfl⟩ : ∃ x, x = wr := ⟨_, rfl⟩
        obtain ⟨j, t6, hj, rfl, rfl, HO, HB⟩ := hrel
        clear HO2 HB2
        have hsz := HB.out.size
        have hfo := HO.out
        obtain rfl | rfl | rfl : j = 0 ∨ j = 1 ∨ j = 2 := by omega
        · rw [if_pos rfl] at hfo
          have y0 := (HB.out.cell (p := ⟨g, off, none⟩) hg0).trans C0.out
          have HXi := Lib.hid (HX.out.below HB.out)
          go_wp2_with (at_builtin; refine wp_appendN wi rfl (.tmp 31) (.tmp 32) rfl w.heap.size _ [] rfl hfo a1 c1 xs (by rw [← HN.out]; rfl) (by intro z hz; exact HXi.out z hz) (by rw [← HN.out]; simp; omega) hsz ?_; intro v' w7 hown1 hg1; have HO7 := Lib.hid hown1; have HB7 := Lib.hid (below_append HB.out hg1 hfo (Nat.le_refl _) hsz); clear hown1 hg1)
          go_roundw
          case rel => exact ⟨1, _, by omega, by go_num, rfl, by simpa using HO7, HB7⟩
          case measure => simp [intOf]
        · rw [if_neg (by decide), if_pos rfl] at hfo
          have y0 := (HB.out.cell (p := ⟨g, off + 1, none⟩) hg0).trans C1.out
          have HYi := Lib.hid (HY.out.below HB.out)
          go_wp2_with (at_builtin; refine wp_appendN wi rfl (.tmp 31) (.tmp 32) rfl w.heap.size _ xs rfl hfo a2 c2 ys (by rw [← HM.out]; rfl) (by intro z hz; exact HYi.out z hz) (by rw [← HN.out, ← HM.out]; omega) hsz ?_; intro v' w7 hown1 hg1; have HO7 := Lib.hid hown1; have HB7 := Lib.hid (below_append HB.out hg1 hfo (Nat.le_refl _) hsz); clear hown1 hg1)
          go_roundw
          case rel => exact ⟨2, _, by omega, by go_num, rfl, by simpa using HO7, HB7⟩
          case measure => simp [intOf]
        · rw [if_neg (by decide), if_neg (by decide)] at hfo
          have HF := Lib.hid hfo
          clear hfo
          go_wp2
          go_ret
          exact ⟨_, rfl, HF.out, HB.out⟩
end Go.Proofs.YthoodjjjklbggaaDoor

namespace Go.Proofs.YthoodjjjklbggaaDoor
open Go.RowKit Go.Sort
set_option maxRecDepth 100000
def sg (xs : List Int) (a b : Nat) : Int := if a = b then 0 else if bt xs a b = true then 1 else -1
theorem sg_sk {n : Nat} {xs : List Int} (hp : tourP n xs) : SkT (sg xs) n where
  diag := fun i _ => by simp [sg]
  skew := fun i k hi hk => by
    unfold sg
    by_cases e : i = k
    · rw [if_pos e, if_pos e.symm]; rfl
    · rw [if_neg e, if_neg (Ne.symm e)]
      rcases q : bt xs i k with _ | _
      · rw [(bt_flip hp hk hi (Ne.symm e)).2 q]; rfl
      · rw [(bt_flip hp hi hk e).1 q]; rfl
  one := fun i k hi hk e => by
    unfold sg
    rw [if_neg e]
    split
    · exact .inl rfl
    · exact .inr rfl
theorem pfF_zero (A : Nat → Nat → Int) : ∀ f, pfF A f [] = 1 := by
  intro f
  cases f <;> rfl
theorem nI_take (l : List Nat) (k : Nat) : nI (l.take k) = (nI l).take k := by simp [nI, List.map_take]
theorem nI_drop (l : List Nat) (k : Nat) : nI (l.drop k) = (nI l).drop k := by simp [nI, List.map_drop]
theorem nI_append (l m : List Nat) : nI (l ++ m) = nI l ++ nI m := by simp [nI]
set_option maxHeartbeats 4000000 in
theorem pfaffian_any (n : Nat) (sl : Value) (xs : List Int) (hp : tourP n xs) (h7 : n ≤ 8) : ∀ (f : Nat) (l : List Nat) (v : Value) (w : World), l.length ≤ f → l.length % 2 = 0 → l.length ≤ 6 → l.Nodup → (∀ x ∈ l, x < n) → Rd w sl xs → Rd w v (nI l) →
    Calls Tryd.prog 59 #[.agg #[.int .i64 n, sl], v] w fun e w' => e = .returned (.int .i64 (pfF (sg xs) f l)) ∧ Below w.heap.size w w' := by
  have HP := Lib.hid hp
  have hln := tour_len hp
  have HLN := Lib.hid hln
  clear hp hln
  intro f
  induction f using Nat.strongRecOn with
  | _ f ih =>
    intro l v w hlf hev h6 hnd hm h hv
    have HIH := Lib.hid ih
    clear ih
    have HR := Lib.hid h
    obtain ⟨A, c, rfl, -, hcm, -⟩ := h
    unfold maxLen at hcm
    rw [HLN.out] at HR ⊢
    obtain ⟨B, d, rfl, hd1, hd2, hx⟩ := hv
    unfold maxLen at hd2
    rw [nI_len] at hd1 hx ⊢
    rcases l with _ | ⟨hh, t⟩
    · rw [pfF_zero]
      go_enter Tryd.func59, Tryd.ntmps59
      go_wp2_with fail
      have b0 := below_alloc1 w (.cells #[.int .i64 n, .slice A n c] 25)
      have x0 := TBox.new w n (.slice A n c) 25
      generalize w.alloc (.cells #[.int .i64 n, .slice A n c] 25) = w0 at *
      have HX0 := Lib.hid x0
      have HB0 := Lib.hid b0
      clear x0 b0
      have y0_0 := HX0.out.1
      have y1_0 := HX0.out.2
      go_wp2
      go_ret
      exact ⟨rfl, HB0.out⟩
    · obtain ⟨f, rfl⟩ : ∃ f', f = f' + 1 := ⟨f - 1, by simp at hlf; omega⟩
      obtain ⟨g, off, rfl, hg, hc⟩ := hx (by simp)
      have HV := Lib.hid hc
      have HE : Hid (pfF (sg xs) (f + 1) (hh :: t) = pfS (sg xs) hh (pfF (sg xs) f) [] t 1) := Lib.hid rfl
      clear hx hc
      simp only [List.length_cons] at hlf hev h6 hd1 HV ⊢
      obtain ⟨m, hmt⟩ : ∃ m, m = t.length := ⟨_, rfl⟩
      have HMT := Lib.hid hmt
      rw [← hmt] at hlf hev h6 hd1 HV ⊢
      clear hmt
      go_enter Tryd.func59, Tryd.ntmps59
      go_wp2_with fail
      have b0 := below_alloc1 w (.cells #[.int .i64 n, .slice A n c] 25)
      have x0 := TBox.new w n (.slice A n c) 25
      generalize w.alloc (.cells #[.int .i64 n, .slice A n c] 25) = w0 at *
      have HX0 := Lib.hid x0
      have HB0 := Lib.hid b0
      clear x0 b0
      have y0_0 := HX0.out.1
      have y1_0 := HX0.out.2
      have g1 : (((m + 1 : Nat) : Int) == 0) = false := by simp; omega
      have g2 : ((m : Int) + 1 == 0) = false := by simp; omega
      go_wp2
      rw [g2]
      clear g1 g2
      go_loopw [5, 6, 7] (fun t5 t6 t7 wr => ∃ (k : Nat) (S s : Int), k ≤ m ∧ t7 = .int .i64 ((k + 1 : Nat) : Int) ∧ t6 = .int .i64 s ∧ t5 = .int .i64 S ∧ (s = 1 ∨ s = -1) ∧ -15 * k ≤ S ∧ S ≤ 15 * k ∧ Hid (S + pfS (sg xs) hh (pfF (sg xs) f) (t.take k) (t.drop k) s = pfF (sg xs) (f + 1) (hh :: t)) ∧ Hid (TBox wr w.heap.size n (.slice A n c)) ∧ Hid (Below w.heap.size w wr)) (fun _ _ t7 _ => m + 1 - (intOf t7).toNat)
      case atStart => exact ⟨0, 0, 1, by omega, rfl, rfl, rfl, by omega, by omega, by omega, Lib.hid (by rw [HE.out]; simp), HX0, HB0⟩
      case round =>
        obtain ⟨wo, rfl⟩ : ∃ x, x = wr := ⟨_, rfl⟩
        obtain ⟨k, S, s, hk, rfl, rfl, rfl, hs, hS1, hS2, HS, HX, HB⟩ := hrel
        clear HX0 HB0 y0_0 y1_0
        by_cases hlt : k < m
        · have y0 := HX.out.1
          have y1 := HX.out.2
          have i0 : (0 : Int) ≤ (k : Int) + 1 := by omega
          have i1 : (k : Int) + 1 ≤ d := by omega
          have i2 : (k : Int) + 1 + 1 ≤ (m : Int) + 1 := by omega
          have i3 : (0 : Int) ≤ (k : Int) + 1 + 1 := by omega
          have i4 : (m : Int) + 1 ≤ d := by omega
          have i5 : (1 : Int) ≤ (k : Int) + 1 := by omega
          have e1 : IntKind.i64.wrap ((k : Int) + 1 + 1) = (k : Int) + 1 + 1 := IntWalk.i64_in _ (by omega)
          have e2 : ¬ d = 1 := by omega
          obtain ⟨r, hr⟩ : ∃ r, m = k + 1 + r := ⟨m - (k + 1), by omega⟩
          have e3 : ((k : Int) + 1 + 1).toNat = k + 2 := by omega
          obtain ⟨a2, ha2, hA2⟩ : ∃ a2 : Addr, (if d = ((k : Int) + 1 + 1).toNat then some (⟨g, off, none⟩ : Addr) else some ⟨g, off + ((k : Int) + 1 + 1).toNat, none⟩) = some a2 ∧ RdA w a2 (nI (t.drop (k + 1))) := by
            have hlen : (nI (t.drop (k + 1))).length = r := by rw [nI_len, List.length_drop, ← HMT.out]; omega
            rw [e3]
            by_cases hdk : d = k + 2
            · rw [if_pos hdk]
              exact ⟨_, rfl, fun j hj => by rw [hlen] at hj; omega⟩
            · rw [if_neg hdk]
              refine ⟨_, rfl, fun j hj => ?_⟩
              rw [hlen] at hj
              have := HV.out (k + 2 + j) (by omega)
              have hg0 : (nI (hh :: t)).getD (k + 2 + j) 0 = (nI (t.drop (k + 1))).getD j 0 := by
                rw [nI_drop]
                have e : k + 2 + j = (k + 1 + j) + 1 := by omega
                simp [nI, e, List.getElem?_drop]
              rw [hg0] at this
              rw [Addr.add_lit, show off + (k + 2) + j = off + (k + 2 + j) by omega]
              exact this
          have hA1 : RdA w ⟨g, off + 1, none⟩ (nI (t.take k)) := fun j hj => by
            have hj' : j < k := by rw [nI_len, List.length_take] at hj; omega
            have := HV.out (1 + j) (by omega)
            have hg0 : (nI (hh :: t)).getD (1 + j) 0 = (nI (t.take k)).getD j 0 := by
              rw [Nat.add_comm 1 j]
              simp [nI, hj']
            rw [hg0] at this
            rw [Addr.add_lit, show off + 1 + j = off + (1 + j) by omega]
            exact this
          obtain ⟨d2, hd2⟩ : ∃ d2, d - ((k : Int) + 1 + 1).toNat = d2 := ⟨_, rfl⟩
          have e4 : m + 1 - ((k : Int) + 1 + 1).toNat = r := by omega
          have B1 : Below w.heap.size w (wo.alloc (.cells #[.slice (some ⟨g, off + 1, none⟩) k (d - 1), .slice (some a2) r d2] 23)).drew := (Below.then HB.out (below_alloc1 wo _)).drew
          have HB1 := Lib.hid B1
          have HA1 := Lib.hid (hA1.below HB1.out)
          have HA2 := Lib.hid (hA2.below HB1.out)
          have HL1 : Hid ((nI (t.take k)).length = k) := Lib.hid (by rw [nI_len, List.length_take, ← HMT.out]; omega)
          have HL2 : Hid ((nI (t.drop (k + 1))).length = r) := Lib.hid (by rw [nI_len, List.length_drop, ← HMT.out]; omega)
          have H0 : Hid ((wo.alloc (.cells #[.slice (some ⟨g, off + 1, none⟩) k (d - 1), .slice (some a2) r d2] 23)).drew.cell? ⟨wo.heap.size, 0, none⟩ = some (.slice (some ⟨g, off + 1, none⟩) (nI (t.take k)).length (d - 1))) := Lib.hid (by rw [HL1.out]; simp)
          have H1 : Hid ((wo.alloc (.cells #[.slice (some ⟨g, off + 1, none⟩) k (d - 1), .slice (some a2) r d2] 23)).drew.cell? ⟨wo.heap.size, 0 + 1, none⟩ = some (.slice (some a2) (nI (t.drop (k + 1))).length d2)) := Lib.hid (by rw [HL2.out]; simp)
          have HLE : Hid ((nI (t.take k)).length + (nI (t.drop (k + 1))).length ≤ 1000) := Lib.hid (by rw [HL1.out, HL2.out]; omega)
          have HXd := Lib.hid (fun o => (show TBox wo.drew w.heap.size n (.slice A n c) from HX.out).below (below_alloc1 wo.drew o))
          have HX1 := Lib.hid (show TBox (wo.alloc (.cells #[.slice (some ⟨g, off + 1, none⟩) k (d - 1), .slice (some a2) r d2] 23)).drew w.heap.size n (.slice A n c) from HX.out.below (below_alloc1 wo _).drew)
          have hsub : (t.take k ++ t.drop (k + 1)).Sublist t := by
            have h1 : (t.drop (k + 1)).Sublist (t.drop k) := List.drop_sublist_drop_left t (by omega)
            have := (List.Sublist.refl (t.take k)).append h1
            rwa [List.take_append_drop] at this
          have HNL : Hid ((t.take k ++ t.drop (k + 1)).length = m - 1) := Lib.hid (by
            rw [List.length_append, List.length_take, List.length_drop, ← HMT.out]; omega)
          have HND : Hid ((t.take k ++ t.drop (k + 1)).Nodup) := Lib.hid (hsub.nodup (List.nodup_cons.1 hnd).2)
          have HMB : Hid (∀ x ∈ t.take k ++ t.drop (k + 1), x < n) := Lib.hid fun x hx => hm x (List.mem_cons_of_mem _ (hsub.subset hx))
          have HNX : Hid (pfS (sg xs) hh (pfF (sg xs) f) (t.take k) (t.drop k) s = s * pfF (sg xs) f (t.take k ++ t.drop (k + 1)) * sg xs hh (t.getD k 0) + pfS (sg xs) hh (pfF (sg xs) f) (t.take (k + 1)) (t.drop (k + 1)) (-s)) := Lib.hid (by
            have hkt : k < t.length := by rw [← HMT.out]; exact hlt
            rw [List.drop_eq_getElem_cons hkt, pfS, getD_nat hkt, ← List.take_succ_eq_append_getElem hkt])
          have HPB := Lib.hid (pfF_facts (sg_sk HP.out) f _ (by rw [HNL.out]; omega) (by rw [HNL.out]; omega) HND.out HMB.out)
          have hbd : pfBd (m - 1) ≤ 15 := by
            have : m = 1 ∨ m = 3 ∨ m = 5 := by omega
            rcases this with h | h | h <;> rw [h] <;> decide
          rw [HNL.out] at HPB
          have HIC : Hid (∀ v3 w3, Rd w3 (.slice A n c) xs → Rd w3 v3 (nI (t.take k ++ t.drop (k + 1))) → Calls Tryd.prog 59 #[.agg #[.int .i64 n, .slice A n c], v3] w3 fun e w' => e = .returned (.int .i64 (pfF (sg xs) f (t.take k ++ t.drop (k + 1)))) ∧ Below w3.heap.size w3 w') := Lib.hid fun v3 w3 h1 h2 => by
            have := HIH.out f (Nat.lt_succ_self f) _ v3 w3 (by rw [HNL.out]; omega) (by rw [HNL.out]; omega) (by rw [HNL.out]; omega) HND.out HMB.out (by rw [HLN.out]; exact h1) h2
            rw [HLN.out] at this
            exact this
          clear hsub hA1 hA2 B1 e3 hr
          generalize pfF (sg xs) f (t.take k ++ t.drop (k + 1)) = P at *
          obtain ⟨z, hz, hz1, hz2, hzs⟩ : ∃ z : Int, IntKind.i64.wrap (s * P) = z ∧ -15 ≤ z ∧ z ≤ 15 ∧ z = s * P := by
            obtain ⟨-, p1, p2⟩ := HPB.out
            have hPb : (pfBd (m - 1) : Int) ≤ 15 := by omega
            generalize (pfBd (m - 1) : Int) = pq at *
            rcases hs with rfl | rfl
            · exact ⟨P, by rw [Int.one_mul]; exact IntWalk.i64_in _ (by omega), by omega, by omega, by omega⟩
            · exact ⟨-P, by rw [Int.neg_one_mul]; exact IntWalk.i64_in _ (by omega), by omega, by omega, by omega⟩
          have HZS := Lib.hid hzs
          have htk : t.getD k 0 < n := by
            have hkt : k < t.length := by rw [← HMT.out]; exact hlt
            exact hm _ (List.mem_cons_of_mem _ (by rw [getD_nat hkt]; exact List.getElem_mem hkt))
          have hhn : hh < n := hm hh (by simp)
          have hne : hh ≠ t.getD k 0 := fun e => (List.nodup_cons.1 hnd).1 (by
            have hkt : k < t.length := by rw [← HMT.out]; exact hlt
            rw [e, getD_nat hkt]; exact List.getElem_mem hkt)
          have hc0 : w.cell? ⟨g, off, none⟩ = some (.int .i64 (hh : Nat)) := HV.out 0 (by omega)
          have hck : w.cell? ⟨g, off + (k + 1), none⟩ = some (.int .i64 (t.getD k 0 : Nat)) := by
            have := HV.out (k + 1) (by omega)
            rw [nI_getD (by simp; rw [← HMT.out]; omega)] at this
            simpa using this
          have HC0 := Lib.hid hc0
          have HCK := Lib.hid hck
          have HBT : Hid (bitI (xs.getD hh 0) (t.getD k 0) = bt xs hh (t.getD k 0)) := Lib.hid (bitI_bt (tour_wins HP.out (by rw [HLN.out]; exact hhn)).1)
          have HSG : Hid (sg xs hh (t.getD k 0) = if bt xs hh (t.getD k 0) = true then 1 else -1) := Lib.hid (by unfold sg; rw [if_neg hne])
          clear hzs hc0 hck hne
          generalize t.getD k 0 = tk at *
          go_wp2_with fail
          go_region_held3 (fun W => W.cell? ⟨w.heap.size, 0, none⟩ = some (.int .i64 n) ∧ W.cell? ⟨w.heap.size, 1, none⟩ = some (.slice A n c))
            (first | exact ⟨y0, y1⟩ | exact HX3.out | exact HX4.out | exact HXd.out _)
            (first
              | (go_at_call 59; refine (HIC.out v3 w3 (HR.out.below HB3.out) HO3.out).mono ?_; rintro e w4 ⟨rfl, hb4⟩; have HX4 := Lib.hid (HX3.out.below hb4); have HB4 := Lib.hid (Below.then HB3.out hb4); clear hb4)
              | (go_at_call 82; refine (concat2_any wo.heap.size 0 2 ⟨g, off + 1, none⟩ a2 (d - 1) d2 (nI (t.take k)) (nI (t.drop (k + 1))) _ H0.out H1.out HA1.out HA2.out HLE.out).mono ?_; rintro e w3 ⟨v3, rfl, ho3, hb3⟩; have HX3 := Lib.hid (HX1.out.below hb3); have HB3 := Lib.hid (Below.then HB1.out hb3); have HO3 := Lib.hid (show Rd w3 v3 (nI (t.take k ++ t.drop (k + 1))) by rw [nI_append]; exact ho3.rd); clear hb3 ho3))
          have y0 := HX4.out.1
          have y1 := HX4.out.2
          have k1 := quiet_below (w := w4) (fun W' hW => beats_any n (.slice A n c) xs hh tk W' (HR.out.below (Below.then HB4.out hW)) (by omega) (by rw [HLN.out]; omega) (by omega) (by omega))
          rw [Int.toNat_natCast, Int.toNat_natCast, HBT.out] at k1
          have z0 := cell_regrown y0
          have z1 := cell_regrown y1
          have z2 := cell_regrown ((HB4.out.cell (p := ⟨g, off, none⟩) hg).trans HC0.out)
          have z3 := cell_regrown ((HB4.out.cell (p := ⟨g, off + (k + 1), none⟩) hg).trans HCK.out)
          clear y0 y1
          go_wp2_with fail
          refine wp_region_below (by kernel_rfl) (by kernel_rfl) ?_
          repeat (go_big_quiet_step (first | (with_reducible exact k1 _ _)))
          refine wpQuiet_nil ?_
          intro wq hbq0
          have HXq := Lib.hid (HX4.out.below hbq0)
          have HBq := Lib.hid (Below.then HB4.out hbq0)
          clear hbq0 k1 z0 z1 z2 z3 e1 e4 hz ha2 hd2
          have us : IntKind.i64.wrap (-s) = -s := IntWalk.i64_in _ (by omega)
          rcases q : bt xs hh tk with _ | _
          · rw [q, if_neg (by decide)] at HSG
            have HSN : Hid (S - z + pfS (sg xs) hh (pfF (sg xs) f) (t.take (k + 1)) (t.drop (k + 1)) (-s) = pfF (sg xs) (f + 1) (hh :: t)) := Lib.hid (by
              have h1 := HS.out
              rw [HNX.out, HSG.out, ← HZS.out] at h1
              omega)
            clear HS HNX HSG HZS
            have u1 : IntKind.i64.wrap (S - z) = S - z := IntWalk.i64_in _ (by omega)
            go_wp2
            go_roundw
            case rel =>
              exact ⟨k + 1, S - z, -s, by omega, by go_num, by go_num, by first | rfl | go_num | rw [u1], by omega, by omega, by omega, HSN, HXq, HBq⟩
            case measure => simp [intOf]; omega
          · rw [q, if_pos rfl] at HSG
            have HSN : Hid (S + z + pfS (sg xs) hh (pfF (sg xs) f) (t.take (k + 1)) (t.drop (k + 1)) (-s) = pfF (sg xs) (f + 1) (hh :: t)) := Lib.hid (by
              have h1 := HS.out
              rw [HNX.out, HSG.out, ← HZS.out] at h1
              omega)
            clear HS HNX HSG HZS
            have u1 : IntKind.i64.wrap (S + z) = S + z := IntWalk.i64_in _ (by omega)
            go_wp2
            go_roundw
            case rel => exact ⟨k + 1, S + z, -s, by omega, by go_num, by go_num, by first | rfl | go_num | rw [u1], by omega, by omega, by omega, HSN, HXq, HBq⟩
            case measure => simp [intOf]; omega
        · obtain rfl : k = m := by omega
          have HSE : Hid (S = pfF (sg xs) (f + 1) (hh :: t)) := Lib.hid (by
            rw [← HS.out, List.drop_of_length_le (by rw [← HMT.out]; exact Nat.le_refl _)]; simp [pfS])
          go_wp2
          go_ret
          exact ⟨by rw [← HSE.out]; rfl, HB.out⟩
end Go.Proofs.YthoodjjjklbggaaDoor

namespace Go.Proofs.YthoodjjjklbggaaDoor
open Go.Shelf
def laysNm215_ren : Go.Shelf.Ren := ⟨fun | 15 => 61 | n => n, fun | 22 => 23 | 3 => 3 | 4 => 4 | n => n, fun | n => n⟩
theorem laysNm215 : Go.Proofs.Lays2.n15 Tryd.prog laysNm215_ren := {
  mixed := by kernel_rfl
  f15 := Tryd.func61.trans (congrArg some (by kernel_rfl))
  t3 := Tryd.underlying3
  a3 := Tryd.isAgg3
  z3 := Tryd.sizeOf3
  v3 := Tryd.zeroValue3
  t4 := Tryd.underlying4
  a4 := Tryd.isAgg4
  z4 := Tryd.sizeOf4
  v4 := Tryd.zeroValue4
  t22 := Tryd.underlying23
  a22 := Tryd.isAgg23
  z22 := Tryd.sizeOf23
  v22 := Tryd.zeroValue23
  i3 := by kernel_rfl }
open Go.RowKit Go.Lib in
theorem slices_Clone_int (b off n c : Nat) (zs : List Int) (w : World) (hz : n ≤ zs.length) (hbig : n * 8 ≤ 140737488355328) (hc : ∀ j, j < zs.length → w.cell? ⟨b, off + j, none⟩ = some (.int .i64 (zs.getD j 0))) :
    Calls Tryd.prog 61 #[.slice (some ⟨b, off, none⟩) n c] w fun e w' => ∃ v', e = .returned v' ∧ w'.ownsRow w.heap.size 3 1 v' n ((zs.take n).map (Value.int .i64)) ∧ v' ≠ .slice none 0 0 ∧ Below w.heap.size w w' := Any.slices_Clone_int laysNm215 b off n c zs w hz hbig hc
open Go.RowKit Go.Lib in
theorem slices_Clone_int_nil (n c : Nat) (w : World) :
    Calls Tryd.prog 61 #[.slice none n c] w fun e w' => e = .returned (.slice none 0 0) ∧ w' = w := Any.slices_Clone_int_nil laysNm215 n c w
open Go.RowKit Go.Lib in
theorem slices_Clone_int_zero (a : Addr) (c : Nat) (w : World) :
    Calls Tryd.prog 61 #[.slice (some a) 0 c] w fun e w' => ∃ v', e = .returned v' ∧ w'.ownsRow w.heap.size 3 1 v' 0 [] ∧ v' ≠ .slice none 0 0 ∧ Below w.heap.size w w' := Any.slices_Clone_int_zero laysNm215 a c w
def laysNm223_ren : Go.Shelf.Ren := ⟨fun | 23 => 60 | n => n, fun | 22 => 23 | 3 => 3 | 4 => 4 | 0 => 0 | n => n, fun | n => n⟩
theorem laysNm223 : Go.Proofs.Lays2.n23 Tryd.prog laysNm223_ren := {
  mixed := by kernel_rfl
  f23 := Tryd.func60.trans (congrArg some (by kernel_rfl))
  t0 := Tryd.underlying0
  a0 := Tryd.isAgg0
  z0 := Tryd.sizeOf0
  v0 := Tryd.zeroValue0
  t3 := Tryd.underlying3
  a3 := Tryd.isAgg3
  z3 := Tryd.sizeOf3
  v3 := Tryd.zeroValue3
  t4 := Tryd.underlying4
  a4 := Tryd.isAgg4
  z4 := Tryd.sizeOf4
  v4 := Tryd.zeroValue4
  t22 := Tryd.underlying23
  a22 := Tryd.isAgg23
  z22 := Tryd.sizeOf23
  v22 := Tryd.zeroValue23
  i3 := by kernel_rfl }
open Go.RowKit Go.Lib Go.Sort in
theorem slices_Delete_int_arr (blk off cap i j : Nat) (d : Array Int) (w : World) (hH : Holds encI w blk off d) (hcap : d.size ≤ cap) (hm : cap ≤ 9223372036854775807) (hij : i ≤ j) (hj : j ≤ d.size) :
    Calls Tryd.prog 60 #[.slice (some ⟨blk, off, none⟩) d.size cap, .int .i64 i, .int .i64 j] w fun e w' => e = .returned (.slice (some ⟨blk, off, none⟩) (d.size - (j - i)) cap) ∧ ∃ q, w' = putRow encI (Sort.ahead w q) blk off (d.toList.take i ++ d.toList.drop j ++ List.replicate (j - i) 0).toArray := Any.slices_Delete_int_arr laysNm223 blk off cap i j d w hH hcap hm hij hj
open Go.RowKit Go.Lib Go.Sort in
theorem slices_Delete_int (blk off cap i j : Nat) (zs : List Int) (w : World) (hH : Holds (Value.int .i64) w blk off zs.toArray) (hcap : zs.length ≤ cap) (hm : cap ≤ 9223372036854775807) (hij : i ≤ j) (hj : j ≤ zs.length) :
    Calls Tryd.prog 60 #[.slice (some ⟨blk, off, none⟩) zs.length cap, .int .i64 i, .int .i64 j] w fun e w' => e = .returned (.slice (some ⟨blk, off, none⟩) (zs.length - (j - i)) cap) ∧ ∃ q, w' = putRow (Value.int .i64) (Sort.ahead w q) blk off (zs.take i ++ zs.drop j ++ List.replicate (j - i) 0).toArray := Any.slices_Delete_int laysNm223 blk off cap i j zs w hH hcap hm hij hj
open Go.RowKit Go.Lib Go.Sort in
theorem slices_Delete_int_cells (b off n c i j : Nat) (zs : List Int) (w : World) (hz : n ≤ zs.length) (hcap : n ≤ c) (hm : c ≤ 9223372036854775807) (hij : i ≤ j) (hj : j ≤ n) (hc : ∀ j, j < zs.length → w.cell? ⟨b, off + j, none⟩ = some (.int .i64 (zs.getD j 0))) (hf : ∀ j, j < n → w.frozen? ⟨b, off + j, none⟩ = false) :
    Calls Tryd.prog 60 #[.slice (some ⟨b, off, none⟩) n c, .int .i64 i, .int .i64 j] w fun e w' => e = .returned (.slice (some ⟨b, off, none⟩) (n - (j - i)) c) ∧ ∃ q, w' = (w.drewN q).setCells b off (((zs.take n).take i ++ (zs.take n).drop j ++ List.replicate (j - i) 0).map (Value.int .i64)) := Any.slices_Delete_int_cells laysNm223 b off n c i j zs w hz hcap hm hij hj hc hf
open Go.RowKit Go.Lib in
theorem slices_Delete_int_empty (a : Option Addr) (c : Nat) (w : World) :
    Calls Tryd.prog 60 #[.slice a 0 c, .int .i64 0, .int .i64 0] w fun e w' => e = .returned (.slice a 0 c) ∧ w' = w := Any.slices_Delete_int_empty laysNm223 a c w
end Go.Proofs.YthoodjjjklbggaaDoor

namespace Go.Proofs.YthoodjjjklbggaaDoor
open Go.RowKit Go.Sort
set_option maxRecDepth 100000
def putL (xs : List Int) : Nat → List Int → List Int
  | _, [] => xs
  | k, v :: r => putL (xs.set k v) (k + 1) r
theorem putL_eq : ∀ (vs : List Int) (k : Nat) (xs : List Int), k + vs.length ≤ xs.length → putL xs k vs = xs.take k ++ vs ++ xs.drop (k + vs.length) := by
  intro vs
  induction vs with
  | nil => intro k xs _; simp [putL]
  | cons v r ih =>
    intro k xs h
    simp only [List.length_cons] at h
    rw [putL, ih (k + 1) (xs.set k v) (by rw [List.length_set]; omega)]
    have hk : k < xs.length := by omega
    rw [List.take_succ_eq_append_getElem (by rw [List.length_set]; exact hk), List.getElem_set_self, List.take_set_of_le (Nat.le_refl k), List.drop_set_of_lt (by omega)]
    simp only [List.length_cons, List.append_assoc, List.cons_append, List.nil_append, show k + (r.length + 1) = k + 1 + r.length by omega]
theorem own_setCells {base g n c : Nat} : ∀ (vs : List Int) (k : Nat) (w : World) (xs : List Int), Own w base (.slice (some ⟨g, 0, none⟩) n c) xs → xs.length = n →
    Own (w.setCells g k (vs.map (Value.int .i64))) base (.slice (some ⟨g, 0, none⟩) n c) (putL xs k vs) ∧ ∀ (B : Nat) (a : World), B ≤ base → Below B a w → Below B a (w.setCells g k (vs.map (Value.int .i64))) := by
  intro vs
  induction vs with
  | nil => intro k w xs h _; exact ⟨h, fun _ _ _ h => h⟩
  | cons v r ih =>
    intro k w xs h hl
    obtain ⟨h1, h2⟩ := h.set_ hl k v
    obtain ⟨h3, h4⟩ := ih (k + 1) _ _ h1 (by rw [List.length_set]; exact hl)
    refine ⟨h3, fun B a hB hb => h4 B a hB ?_⟩
    have hg := (h.lt g rfl)
    exact hb.grown h2 (by omega) (fun q e => by injection e with e; omega)
theorem delete_own (base g n c i : Nat) (xs : List Int) (w : World) (h : Own w base (.slice (some ⟨g, 0, none⟩) n c) xs) (hl : xs.length = n) (hi : i < n) :
    Calls Tryd.prog 60 #[.slice (some ⟨g, 0, none⟩) n c, .int .i64 i, .int .i64 ((i + 1 : Nat) : Int)] w fun e w' => e = .returned (.slice (some ⟨g, 0, none⟩) (n - 1) c) ∧ Own w' base (.slice (some ⟨g, 0, none⟩) (n - 1) c) (xs.eraseIdx i) ∧ ∀ (B : Nat) (a : World), B ≤ base → Below B a w → Below B a w' := by
  obtain ⟨g', c', e, hbg, hm, hnc, hc, hf⟩ := h.at_ hl (by omega)
  injection e with e1 _ e2
  injection e1 with e1
  injection e1 with e1 _ _
  subst e1 e2
  unfold maxLen at hm
  refine (slices_Delete_int_cells g 0 n c i (i + 1) xs w (by omega) hnc (by omega) (by omega) (by omega) (fun j hj => by rw [Nat.zero_add]; exact hc j (by omega)) (fun j _ => hf _)).mono ?_
  rintro e w' ⟨rfl, q, rfl⟩
  have hL : (xs.take n).take i ++ (xs.take n).drop (i + 1) ++ List.replicate (i + 1 - i) 0 = xs.eraseIdx i ++ [0] := by
    have ex : xs.take n = xs := List.take_of_length_le (by omega)
    rw [ex, show i + 1 - i = 1 by omega, List.eraseIdx_eq_take_drop_succ]
    rfl
  rw [hL]
  have hlen : (xs.eraseIdx i ++ [0]).length = n := by rw [List.length_append, List.length_eraseIdx_of_lt (by omega), List.length_singleton]; omega
  obtain ⟨h1, h2⟩ := own_setCells (xs.eraseIdx i ++ [0]) 0 (w.drewN q) xs (h.drewN q) hl
  rw [putL_eq _ _ _ (by omega), List.take_zero, List.nil_append, hlen, Nat.zero_add, List.drop_of_length_le (by omega), List.append_nil] at h1
  refine ⟨by rw [show n - (i + 1 - i) = n - 1 by omega], ?_, fun B a hB hb => h2 B a hB (below_drewN hb q)⟩
  obtain ⟨m, rfl⟩ : ∃ m, n = m + 1 := ⟨n - 1, by omega⟩
  exact own_prefix (by rw [List.length_eraseIdx_of_lt (by omega)]; omega) h1
end Go.Proofs.YthoodjjjklbggaaDoor

