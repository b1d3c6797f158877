/- Texts put together: ShGrow, Conc, Pfaf, ShDel, DelO, EvenOn, SafeP, KerP, KerM, KerW, EvenE. -/
import Derived.Ground.Names8Prog
import Derived.Shelf.Spec.SlicesGrow
import Derived.Test.YtajeledbmnndmaaMSafe01
import Derived.Test.YtajeledbmnndmaaMSafe04
import Derived.Deep.RegionHeld3
import Derived.Ground.Names2Prog
import Derived.Shelf.Slices.Clone
import Derived.Shelf.Slices.Delete
import Derived.Shelf.Slices.Cells
import Derived.Shelf.Slices.Empties
import Derived.Test.YtajeledbmnndmaaMSafe02
import Derived.Test.YtajeledbmnndmaaMSafe03
import Derived.Deep.DeepCutAuto
namespace Go.Proofs.Ytajeledbmnndmaa
open Go.Shelf
def laysGrow_ren : Go.Shelf.Ren := ⟨fun | 4 => 150 | n => n, fun | 22 => 22 | 25 => 3 | 3 => 3 | 4 => 4 | 9 => 9 | 20 => 20 | 0 => 0 | n => n, fun | n => n⟩
theorem laysGrow : Go.Proofs.Lays8.n4 Try.prog laysGrow_ren := {
  mixed := by kernel_rfl
  f4 := ⟨Try.f150.name, by decide, Try.func150.trans (congrArg some (by kernel_rfl))⟩
  t0 := Try.underlying0
  a0 := Try.isAgg0
  z0 := Try.sizeOf0
  v0 := Try.zeroValue0
  t3 := Try.underlying3
  a3 := Try.isAgg3
  z3 := Try.sizeOf3
  v3 := Try.zeroValue3
  t4 := Try.underlying4
  a4 := Try.isAgg4
  z4 := Try.sizeOf4
  v4 := Try.zeroValue4
  t9 := Try.underlying9
  a9 := Try.isAgg9
  z9 := Try.sizeOf9
  v9 := Try.zeroValue9
  t20 := Try.underlying20
  a20 := Try.isAgg20
  z20 := Try.sizeOf20
  v20 := Try.zeroValue20
  t22 := Try.underlying22
  a22 := Try.isAgg22
  z22 := Try.sizeOf22
  v22 := Try.zeroValue22 }
end Go.Proofs.Ytajeledbmnndmaa

namespace Go.Proofs.Ytajeledbmnndmaa
open Go.RowKit Go.Sort
set_option maxRecDepth 100000
/-- a read of a row whose address is known -/
def RdA (w : World) (a : Addr) (xs : List Int) : Prop := ∀ k, k < xs.length → w.cell? (a.add k) = some (.int .i64 (xs.getD k 0))
theorem RdA.below {w w' : World} {a : Addr} {xs : List Int} (h : RdA w a xs) (hb : Below w.heap.size w w') : RdA w' a xs := fun k hk => by
  have := h k hk
  exact (hb.cell (World.block_lt_of_cell? _ _ this)).trans this
theorem grow_any (n : Nat) (w : World) (hn : n ≤ 1000) :
    Calls Try.prog 150 #[.slice none 0 0, .int .i64 n] w fun e w' => ∃ v', e = .returned v' ∧ Own w' w.heap.size v' [] ∧ Below w.heap.size w w' := by
  rcases Nat.eq_zero_or_pos n with h0 | h0
  · subst h0
    refine (Any8.slices_Grow_room laysGrow none 0 0 0 w (by omega) (by omega) (by omega) (by omega)).mono ?_
    rintro e w' ⟨rfl, rfl⟩
    exact ⟨_, rfl, Own.nil_ _ _, Below.refl _ _⟩
  · obtain ⟨i0, hi, hz0, hz1, hz2⟩ := info_parts i64_info
    refine (Any8.slices_Grow_grow laysGrow i0 (.int .i64 0) hi hz0 (by rw [hz1]; decide) none 0 0 n [] w (by omega) (by omega) (by rw [hz2]; omega) (by omega) (by simp) (fun _ => rfl) (fun a h => by cases h)).mono ?_
    rintro e w' ⟨rfl, rfl⟩
    have hge := grownCap_ge w (0 + n) 0 3
    have hle := grownCap_le_maxLen w (0 + n) 0 3 (by unfold maxLen; omega)
    refine ⟨_, rfl, ⟨rfl, .inr ⟨w.heap.size, _, _, rfl, Nat.le_refl _, (Array.getElem?_push_size (xs := w.drew.heap)), Nat.zero_le _, hle, ?_, ?_⟩⟩, ?_⟩
    · show _ = grownCap w (0 + n) 0 3 * 1
      have e : (Builtin.zeroCells (Value.int IntKind.i64 0).cells (0 + n - 0)).size + (Builtin.zeroCells (Value.int IntKind.i64 0).cells (grownCap w (0 + n) 0 3 - (0 + n))).size = grownCap w (0 + n) 0 3 := by
        have h1 : (Value.int IntKind.i64 0).cells.size = 1 := rfl
        generalize grownCap w (0 + n) 0 3 = q at *
        simp [Builtin.zeroCells, h1]
        omega
      rw [Nat.mul_one]
      refine Eq.trans ?_ e
      simp
      rfl
    · simp
    · exact (Below.refl _ _).drew.alloc (by simp) _
set_option maxHeartbeats 2000000 in
theorem concat2_any (g off cc : Nat) (a1 a2 : Addr) (c1 c2 : Nat) (xs ys : List Int) (w : World) (h0 : w.cell? ⟨g, off, none⟩ = some (.slice (some a1) xs.length c1)) (h1 : w.cell? ⟨g, off + 1, none⟩ = some (.slice (some a2) ys.length c2))
    (hx : RdA w a1 xs) (hy : RdA w a2 ys) (hl : xs.length + ys.length ≤ 1000) :
    Calls Try.prog 143 #[.slice (some ⟨g, off, none⟩) 2 cc] w fun e w' => ∃ v', e = .returned v' ∧ Own w' w.heap.size v' (xs ++ ys) ∧ Below w.heap.size w w' := by
  have HX := Lib.hid hx
  have HY := Lib.hid hy
  obtain ⟨n, hn⟩ : ∃ n, n = xs.length := ⟨_, rfl⟩
  obtain ⟨m, hm⟩ : ∃ m, m = ys.length := ⟨_, rfl⟩
  have HN := Lib.hid hn
  have HM := Lib.hid hm
  rw [← hn, ← hm] at hl
  rw [← hn] at h0
  rw [← hm] at h1
  have C0 := Lib.hid h0
  have C1 := Lib.hid h1
  clear hx hy hn hm h0 h1
  have hg0 := World.block_lt_of_cell? _ _ C0.out
  go_enter Try.func143, Try.ntmps143
  go_wp2
  go_loop [3, 11] (fun t3 t11 => ∃ (j s : Nat), j ≤ 2 ∧ t11 = .int .i64 j ∧ t3 = .int .i64 s ∧ ((j = 0 ∧ s = 0) ∨ (j = 1 ∧ s = n) ∨ (j = 2 ∧ s = n + m))) (fun _ t11 => 2 - (intOf t11).toNat)
  case atStart => exact ⟨0, 0, by omega, rfl, rfl, by omega⟩
  case round =>
    obtain ⟨j, s, hj, rfl, rfl, hjs⟩ := hrel
    rcases hjs with ⟨rfl, rfl⟩ | ⟨rfl, rfl⟩ | ⟨rfl, rfl⟩
    · have y0 := C0.out
      go_wp2
      go_round
      case rel => exact ⟨1, n, by omega, by go_num, by go_num, by omega⟩
      case measure => simp [intOf]
    · have y0 := C1.out
      go_wp2
      go_round
      case rel => exact ⟨2, s + m, by omega, by go_num, by go_num, by omega⟩
      case measure => simp [intOf]
    · go_wp2_with fail
      refine (grow_any (n + m) _ (by omega)).mono ?_
      rintro e w2 ⟨v2, rfl, ho2, hb2⟩
      have HO2 := Lib.hid ho2
      have HB2 := Lib.hid hb2
      have hs2 := hb2.size
      clear ho2 hb2
      go_wp2
      go_loopw [6, 27] (fun t6 t27 wr => ∃ (j : Nat) (v : Value), j ≤ 2 ∧ t27 = .int .i64 j ∧ v = t6 ∧ Hid (Own wr w.heap.size v (if j = 0 then [] else if j = 1 then xs else xs ++ ys)) ∧ Hid (Below w.heap.size w wr)) (fun _ t27 _ => 2 - (intOf t27).toNat)
      case atStart => exact ⟨0, _, by omega, rfl, rfl, HO2, HB2⟩
      case round =>
        obtain ⟨wi, rfl⟩ : ∃ x, x = wr := ⟨_, rfl⟩
        obtain ⟨j, t6, hj, rfl, rfl, HO, HB⟩ := hrel
        clear HO2 HB2
        have hsz := HB.out.size
        have hfo := HO.out
        obtain rfl | rfl | rfl : j = 0 ∨ j = 1 ∨ j = 2 := by omega
        · rw [if_pos rfl] at hfo
          have y0 := (HB.out.cell (p := ⟨g, off, none⟩) hg0).trans C0.out
          have HXi := Lib.hid (HX.out.below HB.out)
          go_wp2_with (at_builtin; refine wp_appendN wi rfl (.tmp 31) (.tmp 32) rfl w.heap.size _ [] rfl hfo a1 c1 xs (by rw [← HN.out]; rfl) (by intro z hz; exact HXi.out z hz) (by rw [← HN.out]; simp; omega) hsz ?_; intro v' w7 hown1 hg1; have HO7 := Lib.hid hown1; have HB7 := Lib.hid (below_append HB.out hg1 hfo (Nat.le_refl _) hsz); clear hown1 hg1)
          go_roundw
          case rel => exact ⟨1, _, by omega, by go_num, rfl, by simpa using HO7, HB7⟩
          case measure => simp [intOf]
        · rw [if_neg (by decide), if_pos rfl] at hfo
          have y0 := (HB.out.cell (p := ⟨g, off + 1, none⟩) hg0).trans C1.out
          have HYi := Lib.hid (HY.out.below HB.out)
          go_wp2_with (at_builtin; refine wp_appendN wi rfl (.tmp 31) (.tmp 32) rfl w.heap.size _ xs rfl hfo a2 c2 ys (by rw [← HM.out]; rfl) (by intro z hz; exact HYi.out z hz) (by rw [← HN.out, ← HM.out]; omega) hsz ?_; intro v' w7 hown1 hg1; have HO7 := Lib.hid hown1; have HB7 := Lib.hid (below_append HB.out hg1 hfo (Nat.le_refl _) hsz); clear hown1 hg1)
          go_roundw
          case rel => exact ⟨2, _, by omega, by go_num, rfl, by simpa using HO7, HB7⟩
          case measure => simp [intOf]
        · rw [if_neg (by decide), if_neg (by decide)] at hfo
          have HF := Lib.hid hfo
          clear hfo
          go_wp2
          go_ret
          exact ⟨_, rfl, HF.out, HB.out⟩
end Go.Proofs.Ytajeledbmnndmaa

namespace Go.Proofs.Ytajeledbmnndmaa
open Go.RowKit Go.Sort
set_option maxRecDepth 100000
def sg (xs : List Int) (a b : Nat) : Int := if a = b then 0 else if bt xs a b = true then 1 else -1
theorem sg_sk {n : Nat} {xs : List Int} (hp : tourP n xs) : SkT (sg xs) n where
  diag := fun i _ => by simp [sg]
  skew := fun i k hi hk => by
    unfold sg
    by_cases e : i = k
    · rw [if_pos e, if_pos e.symm]; rfl
    · rw [if_neg e, if_neg (Ne.symm e)]
      rcases q : bt xs i k with _ | _
      · rw [(bt_flip hp hk hi (Ne.symm e)).2 q]; rfl
      · rw [(bt_flip hp hi hk e).1 q]; rfl
  one := fun i k hi hk e => by
    unfold sg
    rw [if_neg e]
    split
    · exact .inl rfl
    · exact .inr rfl
theorem pfF_zero (A : Nat → Nat → Int) : ∀ f, pfF A f [] = 1 := by
  intro f
  cases f <;> rfl
theorem nI_take (l : List Nat) (k : Nat) : nI (l.take k) = (nI l).take k := by simp [nI, List.map_take]
theorem nI_drop (l : List Nat) (k : Nat) : nI (l.drop k) = (nI l).drop k := by simp [nI, List.map_drop]
theorem nI_append (l m : List Nat) : nI (l ++ m) = nI l ++ nI m := by simp [nI]
set_option maxHeartbeats 4000000 in
theorem pfaffian_any (n : Nat) (sl : Value) (xs : List Int) (hp : tourP n xs) (h7 : n ≤ 8) : ∀ (f : Nat) (l : List Nat) (v : Value) (w : World), l.length ≤ f → l.length % 2 = 0 → l.length ≤ 6 → l.Nodup → (∀ x ∈ l, x < n) → Rd w sl xs → Rd w v (nI l) →
    Calls Try.prog 121 #[.agg #[.int .i64 n, sl], v] w fun e w' => e = .returned (.int .i64 (pfF (sg xs) f l)) ∧ Below w.heap.size w w' := by
  have HP := Lib.hid hp
  have hln := tour_len hp
  have HLN := Lib.hid hln
  clear hp hln
  intro f
  induction f using Nat.strongRecOn with
  | _ f ih =>
    intro l v w hlf hev h6 hnd hm h hv
    have HIH := Lib.hid ih
    clear ih
    have HR := Lib.hid h
    obtain ⟨A, c, rfl, -, hcm, -⟩ := h
    unfold maxLen at hcm
    rw [HLN.out] at HR ⊢
    obtain ⟨B, d, rfl, hd1, hd2, hx⟩ := hv
    unfold maxLen at hd2
    rw [nI_len] at hd1 hx ⊢
    rcases l with _ | ⟨hh, t⟩
    · rw [pfF_zero]
      go_enter Try.func121, Try.ntmps121
      go_wp2_with fail
      have b0 := below_alloc1 w (.cells #[.int .i64 n, .slice A n c] 28)
      have x0 := TBox.new w n (.slice A n c) 28
      generalize w.alloc (.cells #[.int .i64 n, .slice A n c] 28) = w0 at *
      have HX0 := Lib.hid x0
      have HB0 := Lib.hid b0
      clear x0 b0
      have y0_0 := HX0.out.1
      have y1_0 := HX0.out.2
      go_wp2
      go_ret
      exact ⟨rfl, HB0.out⟩
    · obtain ⟨f, rfl⟩ : ∃ f', f = f' + 1 := ⟨f - 1, by simp at hlf; omega⟩
      obtain ⟨g, off, rfl, hg, hc⟩ := hx (by simp)
      have HV := Lib.hid hc
      have HE : Hid (pfF (sg xs) (f + 1) (hh :: t) = pfS (sg xs) hh (pfF (sg xs) f) [] t 1) := Lib.hid rfl
      clear hx hc
      simp only [List.length_cons] at hlf hev h6 hd1 HV ⊢
      obtain ⟨m, hmt⟩ : ∃ m, m = t.length := ⟨_, rfl⟩
      have HMT := Lib.hid hmt
      rw [← hmt] at hlf hev h6 hd1 HV ⊢
      clear hmt
      go_enter Try.func121, Try.ntmps121
      go_wp2_with fail
      have b0 := below_alloc1 w (.cells #[.int .i64 n, .slice A n c] 28)
      have x0 := TBox.new w n (.slice A n c) 28
      generalize w.alloc (.cells #[.int .i64 n, .slice A n c] 28) = w0 at *
      have HX0 := Lib.hid x0
      have HB0 := Lib.hid b0
      clear x0 b0
      have y0_0 := HX0.out.1
      have y1_0 := HX0.out.2
      have g1 : (((m + 1 : Nat) : Int) == 0) = false := by simp; omega
      have g2 : ((m : Int) + 1 == 0) = false := by simp; omega
      go_wp2
      rw [g2]
      clear g1 g2
      go_loopw [5, 6, 7] (fun t5 t6 t7 wr => ∃ (k : Nat) (S s : Int), k ≤ m ∧ t7 = .int .i64 ((k + 1 : Nat) : Int) ∧ t6 = .int .i64 s ∧ t5 = .int .i64 S ∧ (s = 1 ∨ s = -1) ∧ -15 * k ≤ S ∧ S ≤ 15 * k ∧ Hid (S + pfS (sg xs) hh (pfF (sg xs) f) (t.take k) (t.drop k) s = pfF (sg xs) (f + 1) (hh :: t)) ∧ Hid (TBox wr w.heap.size n (.slice A n c)) ∧ Hid (Below w.heap.size w wr)) (fun _ _ t7 _ => m + 1 - (intOf t7).toNat)
      case atStart => exact ⟨0, 0, 1, by omega, rfl, rfl, rfl, by omega, by omega, by omega, Lib.hid (by rw [HE.out]; simp), HX0, HB0⟩
      case round =>
        obtain ⟨wo, rfl⟩ : ∃ x, x = wr := ⟨_, rfl⟩
        obtain ⟨k, S, s, hk, rfl, rfl, rfl, hs, hS1, hS2, HS, HX, HB⟩ := hrel
        clear HX0 HB0 y0_0 y1_0
        by_cases hlt : k < m
        · have y0 := HX.out.1
          have y1 := HX.out.2
          have i0 : (0 : Int) ≤ (k : Int) + 1 := by omega
          have i1 : (k : Int) + 1 ≤ d := by omega
          have i2 : (k : Int) + 1 + 1 ≤ (m : Int) + 1 := by omega
          have i3 : (0 : Int) ≤ (k : Int) + 1 + 1 := by omega
          have i4 : (m : Int) + 1 ≤ d := by omega
          have i5 : (1 : Int) ≤ (k : Int) + 1 := by omega
          have e1 : IntKind.i64.wrap ((k : Int) + 1 + 1) = (k : Int) + 1 + 1 := IntWalk.i64_in _ (by omega)
          have e2 : ¬ d = 1 := by omega
          obtain ⟨r, hr⟩ : ∃ r, m = k + 1 + r := ⟨m - (k + 1), by omega⟩
          have e3 : ((k : Int) + 1 + 1).toNat = k + 2 := by omega
          obtain ⟨a2, ha2, hA2⟩ : ∃ a2 : Addr, (if d = ((k : Int) + 1 + 1).toNat then some (⟨g, off, none⟩ : Addr) else some ⟨g, off + ((k : Int) + 1 + 1).toNat, none⟩) = some a2 ∧ RdA w a2 (nI (t.drop (k + 1))) := by
            have hlen : (nI (t.drop (k + 1))).length = r := by rw [nI_len, List.length_drop, ← HMT.out]; omega
            rw [e3]
            by_cases hdk : d = k + 2
            · rw [if_pos hdk]
              exact ⟨_, rfl, fun j hj => by rw [hlen] at hj; omega⟩
            · rw [if_neg hdk]
              refine ⟨_, rfl, fun j hj => ?_⟩
              rw [hlen] at hj
              have := HV.out (k + 2 + j) (by omega)
              have hg0 : (nI (hh :: t)).getD (k + 2 + j) 0 = (nI (t.drop (k + 1))).getD j 0 := by
                rw [nI_drop]
                have e : k + 2 + j = (k + 1 + j) + 1 := by omega
                simp [nI, e, List.getElem?_drop]
              rw [hg0] at this
              rw [Addr.add_lit, show off + (k + 2) + j = off + (k + 2 + j) by omega]
              exact this
          have hA1 : RdA w ⟨g, off + 1, none⟩ (nI (t.take k)) := fun j hj => by
            have hj' : j < k := by rw [nI_len, List.length_take] at hj; omega
            have := HV.out (1 + j) (by omega)
            have hg0 : (nI (hh :: t)).getD (1 + j) 0 = (nI (t.take k)).getD j 0 := by
              rw [Nat.add_comm 1 j]
              simp [nI, hj']
            rw [hg0] at this
            rw [Addr.add_lit, show off + 1 + j = off + (1 + j) by omega]
            exact this
          obtain ⟨d2, hd2⟩ : ∃ d2, d - ((k : Int) + 1 + 1).toNat = d2 := ⟨_, rfl⟩
          have e4 : m + 1 - ((k : Int) + 1 + 1).toNat = r := by omega
          have B1 : Below w.heap.size w (wo.alloc (.cells #[.slice (some ⟨g, off + 1, none⟩) k (d - 1), .slice (some a2) r d2] 22)).drew := (Below.then HB.out (below_alloc1 wo _)).drew
          have HB1 := Lib.hid B1
          have HA1 := Lib.hid (hA1.below HB1.out)
          have HA2 := Lib.hid (hA2.below HB1.out)
          have HL1 : Hid ((nI (t.take k)).length = k) := Lib.hid (by rw [nI_len, List.length_take, ← HMT.out]; omega)
          have HL2 : Hid ((nI (t.drop (k + 1))).length = r) := Lib.hid (by rw [nI_len, List.length_drop, ← HMT.out]; omega)
          have H0 : Hid ((wo.alloc (.cells #[.slice (some ⟨g, off + 1, none⟩) k (d - 1), .slice (some a2) r d2] 22)).drew.cell? ⟨wo.heap.size, 0, none⟩ = some (.slice (some ⟨g, off + 1, none⟩) (nI (t.take k)).length (d - 1))) := Lib.hid (by rw [HL1.out]; simp)
          have H1 : Hid ((wo.alloc (.cells #[.slice (some ⟨g, off + 1, none⟩) k (d - 1), .slice (some a2) r d2] 22)).drew.cell? ⟨wo.heap.size, 0 + 1, none⟩ = some (.slice (some a2) (nI (t.drop (k + 1))).length d2)) := Lib.hid (by rw [HL2.out]; simp)
          have HLE : Hid ((nI (t.take k)).length + (nI (t.drop (k + 1))).length ≤ 1000) := Lib.hid (by rw [HL1.out, HL2.out]; omega)
          have HXd := Lib.hid (fun o => (show TBox wo.drew w.heap.size n (.slice A n c) from HX.out).below (below_alloc1 wo.drew o))
          have HX1 := Lib.hid (show TBox (wo.alloc (.cells #[.slice (some ⟨g, off + 1, none⟩) k (d - 1), .slice (some a2) r d2] 22)).drew w.heap.size n (.slice A n c) from HX.out.below (below_alloc1 wo _).drew)
          have hsub : (t.take k ++ t.drop (k + 1)).Sublist t := by
            have h1 : (t.drop (k + 1)).Sublist (t.drop k) := List.drop_sublist_drop_left t (by omega)
            have := (List.Sublist.refl (t.take k)).append h1
            rwa [List.take_append_drop] at this
          have HNL : Hid ((t.take k ++ t.drop (k + 1)).length = m - 1) := Lib.hid (by
            rw [List.length_append, List.length_take, List.length_drop, ← HMT.out]; omega)
          have HND : Hid ((t.take k ++ t.drop (k + 1)).Nodup) := Lib.hid (hsub.nodup (List.nodup_cons.1 hnd).2)
          have HMB : Hid (∀ x ∈ t.take k ++ t.drop (k + 1), x < n) := Lib.hid fun x hx => hm x (List.mem_cons_of_mem _ (hsub.subset hx))
          have HNX : Hid (pfS (sg xs) hh (pfF (sg xs) f) (t.take k) (t.drop k) s = s * pfF (sg xs) f (t.take k ++ t.drop (k + 1)) * sg xs hh (t.getD k 0) + pfS (sg xs) hh (pfF (sg xs) f) (t.take (k + 1)) (t.drop (k + 1)) (-s)) := Lib.hid (by
            have hkt : k < t.length := by rw [← HMT.out]; exact hlt
            rw [List.drop_eq_getElem_cons hkt, pfS, getD_nat hkt, ← List.take_succ_eq_append_getElem hkt])
          have HPB := Lib.hid (pfF_facts (sg_sk HP.out) f _ (by rw [HNL.out]; omega) (by rw [HNL.out]; omega) HND.out HMB.out)
          have hbd : pfBd (m - 1) ≤ 15 := by
            have : m = 1 ∨ m = 3 ∨ m = 5 := by omega
            rcases this with h | h | h <;> rw [h] <;> decide
          rw [HNL.out] at HPB
          have HIC : Hid (∀ v3 w3, Rd w3 (.slice A n c) xs → Rd w3 v3 (nI (t.take k ++ t.drop (k + 1))) → Calls Try.prog 121 #[.agg #[.int .i64 n, .slice A n c], v3] w3 fun e w' => e = .returned (.int .i64 (pfF (sg xs) f (t.take k ++ t.drop (k + 1)))) ∧ Below w3.heap.size w3 w') := Lib.hid fun v3 w3 h1 h2 => by
            have := HIH.out f (Nat.lt_succ_self f) _ v3 w3 (by rw [HNL.out]; omega) (by rw [HNL.out]; omega) (by rw [HNL.out]; omega) HND.out HMB.out (by rw [HLN.out]; exact h1) h2
            rw [HLN.out] at this
            exact this
          clear hsub hA1 hA2 B1 e3 hr
          generalize pfF (sg xs) f (t.take k ++ t.drop (k + 1)) = P at *
          obtain ⟨z, hz, hz1, hz2, hzs⟩ : ∃ z : Int, IntKind.i64.wrap (s * P) = z ∧ -15 ≤ z ∧ z ≤ 15 ∧ z = s * P := by
            obtain ⟨-, p1, p2⟩ := HPB.out
            have hPb : (pfBd (m - 1) : Int) ≤ 15 := by omega
            generalize (pfBd (m - 1) : Int) = pq at *
            rcases hs with rfl | rfl
            · exact ⟨P, by rw [Int.one_mul]; exact IntWalk.i64_in _ (by omega), by omega, by omega, by omega⟩
            · exact ⟨-P, by rw [Int.neg_one_mul]; exact IntWalk.i64_in _ (by omega), by omega, by omega, by omega⟩
          have HZS := Lib.hid hzs
          have htk : t.getD k 0 < n := by
            have hkt : k < t.length := by rw [← HMT.out]; exact hlt
            exact hm _ (List.mem_cons_of_mem _ (by rw [getD_nat hkt]; exact List.getElem_mem hkt))
          have hhn : hh < n := hm hh (by simp)
          have hne : hh ≠ t.getD k 0 := fun e => (List.nodup_cons.1 hnd).1 (by
            have hkt : k < t.length := by rw [← HMT.out]; exact hlt
            rw [e, getD_nat hkt]; exact List.getElem_mem hkt)
          have hc0 : w.cell? ⟨g, off, none⟩ = some (.int .i64 (hh : Nat)) := HV.out 0 (by omega)
          have hck : w.cell? ⟨g, off + (k + 1), none⟩ = some (.int .i64 (t.getD k 0 : Nat)) := by
            have := HV.out (k + 1) (by omega)
            rw [nI_getD (by simp; rw [← HMT.out]; omega)] at this
            simpa using this
          have HC0 := Lib.hid hc0
          have HCK := Lib.hid hck
          have HBT : Hid (bitI (xs.getD hh 0) (t.getD k 0) = bt xs hh (t.getD k 0)) := Lib.hid (bitI_bt (tour_wins HP.out (by rw [HLN.out]; exact hhn)).1)
          have HSG : Hid (sg xs hh (t.getD k 0) = if bt xs hh (t.getD k 0) = true then 1 else -1) := Lib.hid (by unfold sg; rw [if_neg hne])
          clear hzs hc0 hck hne
          generalize t.getD k 0 = tk at *
          go_wp2_with fail
          go_region_held3 (fun W => W.cell? ⟨w.heap.size, 0, none⟩ = some (.int .i64 n) ∧ W.cell? ⟨w.heap.size, 1, none⟩ = some (.slice A n c))
            (first | exact ⟨y0, y1⟩ | exact HX3.out | exact HX4.out | exact HXd.out _)
            (first
              | (go_at_call 121; refine (HIC.out v3 w3 (HR.out.below HB3.out) HO3.out).mono ?_; rintro e w4 ⟨rfl, hb4⟩; have HX4 := Lib.hid (HX3.out.below hb4); have HB4 := Lib.hid (Below.then HB3.out hb4); clear hb4)
              | (go_at_call 143; refine (concat2_any wo.heap.size 0 2 ⟨g, off + 1, none⟩ a2 (d - 1) d2 (nI (t.take k)) (nI (t.drop (k + 1))) _ H0.out H1.out HA1.out HA2.out HLE.out).mono ?_; rintro e w3 ⟨v3, rfl, ho3, hb3⟩; have HX3 := Lib.hid (HX1.out.below hb3); have HB3 := Lib.hid (Below.then HB1.out hb3); have HO3 := Lib.hid (show Rd w3 v3 (nI (t.take k ++ t.drop (k + 1))) by rw [nI_append]; exact ho3.rd); clear hb3 ho3))
          have y0 := HX4.out.1
          have y1 := HX4.out.2
          have k1 := quiet_below (w := w4) (fun W' hW => beats_any n (.slice A n c) xs hh tk W' (HR.out.below (Below.then HB4.out hW)) (by omega) (by rw [HLN.out]; omega) (by omega) (by omega))
          rw [Int.toNat_natCast, Int.toNat_natCast, HBT.out] at k1
          have z0 := cell_regrown y0
          have z1 := cell_regrown y1
          have z2 := cell_regrown ((HB4.out.cell (p := ⟨g, off, none⟩) hg).trans HC0.out)
          have z3 := cell_regrown ((HB4.out.cell (p := ⟨g, off + (k + 1), none⟩) hg).trans HCK.out)
          clear y0 y1
          go_wp2_with fail
          refine wp_region_below (by kernel_rfl) (by kernel_rfl) ?_
          repeat (go_big_quiet_step (first | (with_reducible exact k1 _ _)))
          refine wpQuiet_nil ?_
          intro wq hbq0
          have HXq := Lib.hid (HX4.out.below hbq0)
          have HBq := Lib.hid (Below.then HB4.out hbq0)
          clear hbq0 k1 z0 z1 z2 z3 e1 e4 hz ha2 hd2
          have us : IntKind.i64.wrap (-s) = -s := IntWalk.i64_in _ (by omega)
          rcases q : bt xs hh tk with _ | _
          · rw [q, if_neg (by decide)] at HSG
            have HSN : Hid (S - z + pfS (sg xs) hh (pfF (sg xs) f) (t.take (k + 1)) (t.drop (k + 1)) (-s) = pfF (sg xs) (f + 1) (hh :: t)) := Lib.hid (by
              have h1 := HS.out
              rw [HNX.out, HSG.out, ← HZS.out] at h1
              omega)
            clear HS HNX HSG HZS
            have u1 : IntKind.i64.wrap (S - z) = S - z := IntWalk.i64_in _ (by omega)
            go_wp2
            go_roundw
            case rel =>
              exact ⟨k + 1, S - z, -s, by omega, by go_num, by go_num, by first | rfl | go_num | rw [u1], by omega, by omega, by omega, HSN, HXq, HBq⟩
            case measure => simp [intOf]; omega
          · rw [q, if_pos rfl] at HSG
            have HSN : Hid (S + z + pfS (sg xs) hh (pfF (sg xs) f) (t.take (k + 1)) (t.drop (k + 1)) (-s) = pfF (sg xs) (f + 1) (hh :: t)) := Lib.hid (by
              have h1 := HS.out
              rw [HNX.out, HSG.out, ← HZS.out] at h1
              omega)
            clear HS HNX HSG HZS
            have u1 : IntKind.i64.wrap (S + z) = S + z := IntWalk.i64_in _ (by omega)
            go_wp2
            go_roundw
            case rel => exact ⟨k + 1, S + z, -s, by omega, by go_num, by go_num, by first | rfl | go_num | rw [u1], by omega, by omega, by omega, HSN, HXq, HBq⟩
            case measure => simp [intOf]; omega
        · obtain rfl : k = m := by omega
          have HSE : Hid (S = pfF (sg xs) (f + 1) (hh :: t)) := Lib.hid (by
            rw [← HS.out, List.drop_of_length_le (by rw [← HMT.out]; exact Nat.le_refl _)]; simp [pfS])
          go_wp2
          go_ret
          exact ⟨by rw [← HSE.out]; rfl, HB.out⟩
end Go.Proofs.Ytajeledbmnndmaa

namespace Go.Proofs.Ytajeledbmnndmaa
open Go.Shelf
def laysNm215_ren : Go.Shelf.Ren := ⟨fun | 15 => 109 | n => n, fun | 22 => 22 | 3 => 3 | 4 => 4 | n => n, fun | n => n⟩
theorem laysNm215 : Go.Proofs.Lays2.n15 Try.prog laysNm215_ren := {
  mixed := by kernel_rfl
  f15 := Try.func109.trans (congrArg some (by kernel_rfl))
  t3 := Try.underlying3
  a3 := Try.isAgg3
  z3 := Try.sizeOf3
  v3 := Try.zeroValue3
  t4 := Try.underlying4
  a4 := Try.isAgg4
  z4 := Try.sizeOf4
  v4 := Try.zeroValue4
  t22 := Try.underlying22
  a22 := Try.isAgg22
  z22 := Try.sizeOf22
  v22 := Try.zeroValue22
  i3 := by kernel_rfl }
open Go.RowKit Go.Lib in
theorem slices_Clone_int (b off n c : Nat) (zs : List Int) (w : World) (hz : n ≤ zs.length) (hbig : n * 8 ≤ 140737488355328) (hc : ∀ j, j < zs.length → w.cell? ⟨b, off + j, none⟩ = some (.int .i64 (zs.getD j 0))) :
    Calls Try.prog 109 #[.slice (some ⟨b, off, none⟩) n c] w fun e w' => ∃ v', e = .returned v' ∧ w'.ownsRow w.heap.size 3 1 v' n ((zs.take n).map (Value.int .i64)) ∧ v' ≠ .slice none 0 0 ∧ Below w.heap.size w w' := Any.slices_Clone_int laysNm215 b off n c zs w hz hbig hc
open Go.RowKit Go.Lib in
theorem slices_Clone_int_nil (n c : Nat) (w : World) :
    Calls Try.prog 109 #[.slice none n c] w fun e w' => e = .returned (.slice none 0 0) ∧ w' = w := Any.slices_Clone_int_nil laysNm215 n c w
open Go.RowKit Go.Lib in
theorem slices_Clone_int_zero (a : Addr) (c : Nat) (w : World) :
    Calls Try.prog 109 #[.slice (some a) 0 c] w fun e w' => ∃ v', e = .returned v' ∧ w'.ownsRow w.heap.size 3 1 v' 0 [] ∧ v' ≠ .slice none 0 0 ∧ Below w.heap.size w w' := Any.slices_Clone_int_zero laysNm215 a c w
def laysNm223_ren : Go.Shelf.Ren := ⟨fun | 23 => 122 | n => n, fun | 22 => 22 | 3 => 3 | 4 => 4 | 0 => 0 | n => n, fun | n => n⟩
theorem laysNm223 : Go.Proofs.Lays2.n23 Try.prog laysNm223_ren := {
  mixed := by kernel_rfl
  f23 := Try.func122.trans (congrArg some (by kernel_rfl))
  t0 := Try.underlying0
  a0 := Try.isAgg0
  z0 := Try.sizeOf0
  v0 := Try.zeroValue0
  t3 := Try.underlying3
  a3 := Try.isAgg3
  z3 := Try.sizeOf3
  v3 := Try.zeroValue3
  t4 := Try.underlying4
  a4 := Try.isAgg4
  z4 := Try.sizeOf4
  v4 := Try.zeroValue4
  t22 := Try.underlying22
  a22 := Try.isAgg22
  z22 := Try.sizeOf22
  v22 := Try.zeroValue22
  i3 := by kernel_rfl }
open Go.RowKit Go.Lib Go.Sort in
theorem slices_Delete_int_arr (blk off cap i j : Nat) (d : Array Int) (w : World) (hH : Holds encI w blk off d) (hcap : d.size ≤ cap) (hm : cap ≤ 9223372036854775807) (hij : i ≤ j) (hj : j ≤ d.size) :
    Calls Try.prog 122 #[.slice (some ⟨blk, off, none⟩) d.size cap, .int .i64 i, .int .i64 j] w fun e w' => e = .returned (.slice (some ⟨blk, off, none⟩) (d.size - (j - i)) cap) ∧ ∃ q, w' = putRow encI (Sort.ahead w q) blk off (d.toList.take i ++ d.toList.drop j ++ List.replicate (j - i) 0).toArray := Any.slices_Delete_int_arr laysNm223 blk off cap i j d w hH hcap hm hij hj
open Go.RowKit Go.Lib Go.Sort in
theorem slices_Delete_int (blk off cap i j : Nat) (zs : List Int) (w : World) (hH : Holds (Value.int .i64) w blk off zs.toArray) (hcap : zs.length ≤ cap) (hm : cap ≤ 9223372036854775807) (hij : i ≤ j) (hj : j ≤ zs.length) :
    Calls Try.prog 122 #[.slice (some ⟨blk, off, none⟩) zs.length cap, .int .i64 i, .int .i64 j] w fun e w' => e = .returned (.slice (some ⟨blk, off, none⟩) (zs.length - (j - i)) cap) ∧ ∃ q, w' = putRow (Value.int .i64) (Sort.ahead w q) blk off (zs.take i ++ zs.drop j ++ List.replicate (j - i) 0).toArray := Any.slices_Delete_int laysNm223 blk off cap i j zs w hH hcap hm hij hj
open Go.RowKit Go.Lib Go.Sort in
theorem slices_Delete_int_cells (b off n c i j : Nat) (zs : List Int) (w : World) (hz : n ≤ zs.length) (hcap : n ≤ c) (hm : c ≤ 9223372036854775807) (hij : i ≤ j) (hj : j ≤ n) (hc : ∀ j, j < zs.length → w.cell? ⟨b, off + j, none⟩ = some (.int .i64 (zs.getD j 0))) (hf : ∀ j, j < n → w.frozen? ⟨b, off + j, none⟩ = false) :
    Calls Try.prog 122 #[.slice (some ⟨b, off, none⟩) n c, .int .i64 i, .int .i64 j] w fun e w' => e = .returned (.slice (some ⟨b, off, none⟩) (n - (j - i)) c) ∧ ∃ q, w' = (w.drewN q).setCells b off (((zs.take n).take i ++ (zs.take n).drop j ++ List.replicate (j - i) 0).map (Value.int .i64)) := Any.slices_Delete_int_cells laysNm223 b off n c i j zs w hz hcap hm hij hj hc hf
open Go.RowKit Go.Lib in
theorem slices_Delete_int_empty (a : Option Addr) (c : Nat) (w : World) :
    Calls Try.prog 122 #[.slice a 0 c, .int .i64 0, .int .i64 0] w fun e w' => e = .returned (.slice a 0 c) ∧ w' = w := Any.slices_Delete_int_empty laysNm223 a c w
end Go.Proofs.Ytajeledbmnndmaa

namespace Go.Proofs.Ytajeledbmnndmaa
open Go.RowKit Go.Sort
set_option maxRecDepth 100000
def putL (xs : List Int) : Nat → List Int → List Int
  | _, [] => xs
  | k, v :: r => putL (xs.set k v) (k + 1) r
theorem putL_eq : ∀ (vs : List Int) (k : Nat) (xs : List Int), k + vs.length ≤ xs.length → putL xs k vs = xs.take k ++ vs ++ xs.drop (k + vs.length) := by
  intro vs
  induction vs with
  | nil => intro k xs _; simp [putL]
  | cons v r ih =>
    intro k xs h
    simp only [List.length_cons] at h
    rw [putL, ih (k + 1) (xs.set k v) (by rw [List.length_set]; omega)]
    have hk : k < xs.length := by omega
    rw [List.take_succ_eq_append_getElem (by rw [List.length_set]; exact hk), List.getElem_set_self, List.take_set_of_le (Nat.le_refl k), List.drop_set_of_lt (by omega)]
    simp only [List.length_cons, List.append_assoc, List.cons_append, List.nil_append, show k + (r.length + 1) = k + 1 + r.length by omega]
theorem own_setCells {base g n c : Nat} : ∀ (vs : List Int) (k : Nat) (w : World) (xs : List Int), Own w base (.slice (some ⟨g, 0, none⟩) n c) xs → xs.length = n →
    Own (w.setCells g k (vs.map (Value.int .i64))) base (.slice (some ⟨g, 0, none⟩) n c) (putL xs k vs) ∧ ∀ (B : Nat) (a : World), B ≤ base → Below B a w → Below B a (w.setCells g k (vs.map (Value.int .i64))) := by
  intro vs
  induction vs with
  | nil => intro k w xs h _; exact ⟨h, fun _ _ _ h => h⟩
  | cons v r ih =>
    intro k w xs h hl
    obtain ⟨h1, h2⟩ := h.set_ hl k v
    obtain ⟨h3, h4⟩ := ih (k + 1) _ _ h1 (by rw [List.length_set]; exact hl)
    refine ⟨h3, fun B a hB hb => h4 B a hB ?_⟩
    have hg := (h.lt g rfl)
    exact hb.grown h2 (by omega) (fun q e => by injection e with e; omega)
theorem delete_own (base g n c i : Nat) (xs : List Int) (w : World) (h : Own w base (.slice (some ⟨g, 0, none⟩) n c) xs) (hl : xs.length = n) (hi : i < n) :
    Calls Try.prog 122 #[.slice (some ⟨g, 0, none⟩) n c, .int .i64 i, .int .i64 ((i + 1 : Nat) : Int)] w fun e w' => e = .returned (.slice (some ⟨g, 0, none⟩) (n - 1) c) ∧ Own w' base (.slice (some ⟨g, 0, none⟩) (n - 1) c) (xs.eraseIdx i) ∧ ∀ (B : Nat) (a : World), B ≤ base → Below B a w → Below B a w' := by
  obtain ⟨g', c', e, hbg, hm, hnc, hc, hf⟩ := h.at_ hl (by omega)
  injection e with e1 _ e2
  injection e1 with e1
  injection e1 with e1 _ _
  subst e1 e2
  unfold maxLen at hm
  refine (slices_Delete_int_cells g 0 n c i (i + 1) xs w (by omega) hnc (by omega) (by omega) (by omega) (fun j hj => by rw [Nat.zero_add]; exact hc j (by omega)) (fun j _ => hf _)).mono ?_
  rintro e w' ⟨rfl, q, rfl⟩
  have hL : (xs.take n).take i ++ (xs.take n).drop (i + 1) ++ List.replicate (i + 1 - i) 0 = xs.eraseIdx i ++ [0] := by
    have ex : xs.take n = xs := List.take_of_length_le (by omega)
    rw [ex, show i + 1 - i = 1 by omega, List.eraseIdx_eq_take_drop_succ]
    rfl
  rw [hL]
  have hlen : (xs.eraseIdx i ++ [0]).length = n := by rw [List.length_append, List.length_eraseIdx_of_lt (by omega), List.length_singleton]; omega
  obtain ⟨h1, h2⟩ := own_setCells (xs.eraseIdx i ++ [0]) 0 (w.drewN q) xs (h.drewN q) hl
  rw [putL_eq _ _ _ (by omega), List.take_zero, List.nil_append, hlen, Nat.zero_add, List.drop_of_length_le (by omega), List.append_nil] at h1
  refine ⟨by rw [show n - (i + 1 - i) = n - 1 by omega], ?_, fun B a hB hb => h2 B a hB (below_drewN hb q)⟩
  obtain ⟨m, rfl⟩ : ∃ m, n = m + 1 := ⟨n - 1, by omega⟩
  exact own_prefix (by rw [List.length_eraseIdx_of_lt (by omega)]; omega) h1
end Go.Proofs.Ytajeledbmnndmaa

namespace Go.Proofs.Ytajeledbmnndmaa
open Go.RowKit Go.Sort
set_option maxRecDepth 100000
/-- the weight of the k-th of a list -/
def evS (xs : List Int) (l : List Nat) (k : Nat) : Int := (if k % 2 = 1 then -1 else 1) * pfF (sg xs) l.length (l.eraseIdx k)
def evK (xs : List Int) (l : List Nat) (n : Nat) : Nat → List Int
  | 0 => List.replicate n 0
  | k + 1 => (evK xs l n k).set (l.getD k 0) (evS xs l k)
theorem evK_len (xs : List Int) (l : List Nat) (n k : Nat) : (evK xs l n k).length = n := by
  induction k with
  | zero => simp [evK]
  | succ k ih => simp [evK, ih]
theorem evS_bd {n : Nat} {xs : List Int} (hp : tourP n xs) {l : List Nat} (hl : l.length % 2 = 1) (h7 : l.length ≤ 7) (hnd : l.Nodup) (hm : ∀ x ∈ l, x < n) {k : Nat} (hk : k < l.length) :
    evS xs l k % 2 = 1 ∧ -15 ≤ evS xs l k ∧ evS xs l k ≤ 15 ∧ -15 ≤ pfF (sg xs) l.length (l.eraseIdx k) ∧ pfF (sg xs) l.length (l.eraseIdx k) ≤ 15 := by
  have hsub : (l.eraseIdx k).Sublist l := List.eraseIdx_sublist _ _
  have hlen : (l.eraseIdx k).length = l.length - 1 := List.length_eraseIdx_of_lt hk
  have h := pfF_facts (sg_sk hp) l.length (l.eraseIdx k) (by omega) (by omega) (hsub.nodup hnd) (fun x hx => hm x (hsub.subset hx))
  rw [hlen] at h
  have hb : pfBd (l.length - 1) ≤ 15 := by
    have : l.length = 1 ∨ l.length = 3 ∨ l.length = 5 ∨ l.length = 7 := by omega
    rcases this with h | h | h | h <;> rw [h] <;> decide
  unfold evS
  split <;> omega
theorem evK_bd {n : Nat} {xs : List Int} (hp : tourP n xs) {l : List Nat} (hl : l.length % 2 = 1) (h7 : l.length ≤ 7) (hnd : l.Nodup) (hm : ∀ x ∈ l, x < n) : ∀ k, k ≤ l.length → ∀ j, -15 ≤ (evK xs l n k).getD j 0 ∧ (evK xs l n k).getD j 0 ≤ 15 := by
  intro k
  induction k with
  | zero =>
    intro _ j
    have : (evK xs l n 0).getD j 0 = 0 := by
      unfold evK
      by_cases h : j < n <;> simp [h]
    rw [this]; omega
  | succ k ih =>
    intro hk j
    obtain ⟨-, h1, h2, -, -⟩ := evS_bd hp hl h7 hnd hm (k := k) (by omega)
    have h3 := ih (by omega) j
    simp only [evK]
    rw [List.getD_eq_getElem?_getD, List.getElem?_set]
    split
    · split
      · simp; omega
      · simp
    · rw [← List.getD_eq_getElem?_getD]; exact h3
theorem evK_out {xs : List Int} {l : List Nat} {n j : Nat} (hj : j ∉ l) : ∀ k, k ≤ l.length → (evK xs l n k).getD j 0 = 0 := by
  intro k
  induction k with
  | zero =>
    intro _
    unfold evK
    by_cases h : j < n <;> simp [h]
  | succ k ih =>
    intro hk
    have hne : l.getD k 0 ≠ j := fun e => hj (by
      rw [← e, getD_nat (by omega)]; exact List.getElem_mem _)
    simp only [evK]
    rw [List.getD_eq_getElem?_getD, List.getElem?_set_ne hne, ← List.getD_eq_getElem?_getD]
    exact ih (by omega)
def evV (xs : List Int) (l : List Nat) (n : Nat) : List Int := if (evK xs l n l.length).getD (l.getD 0 0) 0 < 0 then (evK xs l n l.length).map fun x => -x else evK xs l n l.length
theorem evV_len (xs : List Int) (l : List Nat) (n : Nat) : (evV xs l n).length = n := by
  unfold evV
  split
  · rw [List.length_map, evK_len]
  · exact evK_len _ _ _ _
theorem neg_getD (L : List Int) (j : Nat) : (L.map fun x => -x).getD j 0 = -(L.getD j 0) := by
  by_cases h : j < L.length <;> simp [h]
theorem evV_bd {n : Nat} {xs : List Int} {l : List Nat} (h : ∀ j, -15 ≤ (evK xs l n l.length).getD j 0 ∧ (evK xs l n l.length).getD j 0 ≤ 15) (j : Nat) : -15 ≤ (evV xs l n).getD j 0 ∧ (evV xs l n).getD j 0 ≤ 15 := by
  have := h j
  unfold evV
  split
  · rw [neg_getD]; omega
  · exact this
theorem evV_out {xs : List Int} {l : List Nat} {n j : Nat} (hj : j ∉ l) : (evV xs l n).getD j 0 = 0 := by
  have := evK_out (xs := xs) (n := n) hj l.length (Nat.le_refl _)
  unfold evV
  split
  · rw [neg_getD, this]; rfl
  · exact this
/-- all weights of the list are greater than 0 -/
def evG (xs : List Int) (l : List Nat) (n : Nat) : Bool := l.all fun a => decide (0 < (evV xs l n).getD a 0)
set_option maxHeartbeats 4000000 in
theorem evenOn_any (n : Nat) (sl : Value) (xs : List Int) (hp : tourP n xs) (l : List Nat) (v : Value) (w : World) (h7 : l.length ≤ 7) (h1 : 1 ≤ l.length) (hnd : l.Nodup) (hm : ∀ x ∈ l, x < n) (h : Rd w sl xs) (hv : Rd w v (nI l)) (hev : l.length % 2 = 1) :
    Calls Try.prog 73 #[.agg #[.int .i64 n, sl], v] w fun e w' => ∃ v', e = .returned v' ∧ (evG xs l n = true → Own w' w.heap.size v' (lowL (evV xs l n)) ∧ v' ≠ .slice none 0 0) ∧ (evG xs l n = false → v' = .slice none 0 0) ∧ Below w.heap.size w w' := by
  have HP := Lib.hid hp
  have hs := hp.1
  have hln := tour_len hp
  have HR := Lib.hid h
  obtain ⟨A, c, rfl, -, hcm, -⟩ := h
  unfold maxLen at hcm
  rw [hln] at HR ⊢
  have HLN := Lib.hid hln
  have HSB := Lib.hid (fun k hk => evS_bd (k := k) hp hev h7 hnd hm hk)
  have HKB := Lib.hid (evK_bd hp hev h7 hnd hm)
  have HND := Lib.hid hnd
  have HM := Lib.hid hm
  have HV := Lib.hid hv
  obtain ⟨B, d, rfl, hd1, hd2, hx⟩ := hv
  unfold maxLen at hd2
  rw [nI_len] at hd1 hx HV ⊢
  obtain ⟨g, off, rfl, hg, hc⟩ := hx (by omega)
  have HC := Lib.hid hc
  obtain ⟨m, hmm⟩ : ∃ m, m = l.length := ⟨_, rfl⟩
  have HML := Lib.hid hmm
  rw [← hmm] at hd1 hev h7 h1 HSB HC HV ⊢
  have HKB : Hid (∀ k, k ≤ m → ∀ j, -15 ≤ (evK xs l n k).getD j 0 ∧ (evK xs l n k).getD j 0 ≤ 15) := Lib.hid fun k hk => HKB.out k (by omega)
  clear hp hln hnd hm hx hc hmm
  obtain ⟨i0, hi, hz0, hz1, hz2⟩ := info_parts i64_info
  have er : Int.tmod (m : Int) 2 = 1 := by rw [Int.tmod_eq_emod_of_nonneg (by omega)]; omega
  have er2 : (m : Int) % 2 = 1 := by omega
  go_enter Try.func73, Try.ntmps73
  have b0 := below_alloc1 w (.cells #[.int .i64 n, .slice A n c] 28)
  have x0 := TBox.new w n (.slice A n c) 28
  have HB0 := Lib.hid b0
  have HX0 := Lib.hid x0
  clear b0 x0
  go_wp2_with (at_make; refine wpList_make_full _ rfl _ _ 22 rfl (w.alloc (.cells #[.int .i64 n, .slice A n c] 28)).heap.size 3 i0 (.int .i64 0) 1 Try.underlying22 hi hz0 hz1 _ _ _ _ n rfl rfl rfl rfl (by rw [hz2]; omega) (by unfold maxLen; omega) (Nat.le_refl _) ?_; intro w1 hown hg1; have hb1 : Below (w.alloc (.cells #[.int .i64 n, .slice A n c] 28)).heap.size (w.alloc (.cells #[.int .i64 n, .slice A n c] 28)) w1 := (Below.refl _ _).grown hg1 (Nat.le_refl _) (by simp); have HX1 := Lib.hid (HX0.out.below hb1); have HB1 := Lib.hid (Below.then HB0.out hb1); have HOWN := Lib.hid hown; clear hown hg1 hb1)
  have hsz : Hid (w.heap.size ≤ w.heap.size + 1) := Nat.le_succ _
  simp only [World.size_alloc] at HOWN
  obtain ⟨gl, hgl⟩ : ∃ gl, gl = w.heap.size + 1 := ⟨_, rfl⟩
  rw [← hgl] at HOWN ⊢
  have HGL := Lib.hid hgl
  clear hgl
  have HOW : Hid (Own w1 w.heap.size (.slice (some ⟨gl, 0, none⟩) n n) (evK xs l n 0)) := Lib.hid (by
    have ho := HOWN.out
    rw [ints_made'] at ho
    have : Own w1 gl (.slice (some ⟨gl, 0, none⟩) n n) (List.replicate n 0) := by unfold Own; rw [List.length_replicate]; exact ho
    exact this.mono (by have := HGL.out; omega))
  clear HOWN
  have hn1 : 0 < n := by omega
  go_loopw [20] (fun t20 wr => ∃ (k : Nat), k ≤ m ∧ t20 = .int .i64 k ∧ Hid (Own wr w.heap.size (.slice (some ⟨gl, 0, none⟩) n n) (evK xs l n k)) ∧ Hid (TBox wr w.heap.size n (.slice A n c)) ∧ Hid (Below w.heap.size w wr)) (fun t20 _ => m - (intOf t20).toNat)
  case atStart => exact ⟨0, by omega, rfl, HOW, HX1, HB1⟩
  case round =>
    obtain ⟨wo, rfl⟩ : ∃ x, x = wr := ⟨_, rfl⟩
    obtain ⟨k, hk, rfl, HO, HX, HB⟩ := hrel
    clear HOW HX1 HB1
    by_cases hlt : k < m
    · as_aux_lemma =>
      have hkl : k < l.length := by rw [← HML.out]; exact hlt
      have hzk : w.cell? ⟨g, off + k, none⟩ = some (.int .i64 (l.getD k 0 : Nat)) := by
        have := HC.out k hlt
        rw [nI_getD hkl] at this
        exact this
      have zk := (HB.out.cell (p := ⟨g, off + k, none⟩) hg).trans hzk
      have hbn : l.getD k 0 < n := HM.out _ (by rw [getD_nat hkl]; exact List.getElem_mem hkl)
      have HKS : Hid (evK xs l n (k + 1) = (evK xs l n k).set (l.getD k 0) (evS xs l k)) := Lib.hid rfl
      have HES : Hid (evS xs l k = (if k % 2 = 1 then -1 else 1) * pfF (sg xs) m (l.eraseIdx k)) := Lib.hid (by rw [HML.out]; rfl)
      obtain ⟨-, -, -, p1, p2⟩ := HSB.out k hlt
      have y0 := HX.out.1
      have y1 := HX.out.2
      have hsub : (l.eraseIdx k).Sublist l := List.eraseIdx_sublist _ _
      have hel : (l.eraseIdx k).length = m - 1 := by rw [List.length_eraseIdx_of_lt hkl, ← HML.out]
      have HPF : Hid (∀ v3 w3, Rd w3 (.slice A n c) xs → Rd w3 v3 (nI (l.eraseIdx k)) → Calls Try.prog 121 #[.agg #[.int .i64 n, .slice A n c], v3] w3 fun e w' => e = .returned (.int .i64 (pfF (sg xs) m (l.eraseIdx k))) ∧ Below w3.heap.size w3 w') := Lib.hid fun v3 w3 h1 h2 =>
        pfaffian_any n (.slice A n c) xs HP.out (by omega) m (l.eraseIdx k) v3 w3 (by omega) (by omega) (by omega) (hsub.nodup HND.out) (fun x hx => HM.out x (hsub.subset hx)) h1 h2
      have HEI : Hid (nI (l.eraseIdx k) = (nI l).eraseIdx k) := Lib.hid (by unfold nI; rw [List.eraseIdx_eq_take_drop_succ, List.eraseIdx_eq_take_drop_succ]; simp [List.map_take, List.map_drop])
      have HLEN : Hid ((nI l).length = m) := Lib.hid (by rw [nI_len, HML.out])
      have hi1 : IntKind.i64.wrap ((k : Int) + 1) = ((k + 1 : Nat) : Int) := by rw [IntWalk.i64_in _ (by omega)]; omega
      clear hsub hel hzk
      generalize evS xs l k = ev at *
      generalize pfF (sg xs) m (l.eraseIdx k) = P at *
      generalize l.getD k 0 = b at *
      have BD := Lib.hid (show Below w.heap.size w wo.drew from HB.out.drew)
      have HXd := Lib.hid (show TBox wo.drew w.heap.size n (.slice A n c) from HX.out)
      have HOd := Lib.hid (show Own wo.drew w.heap.size (.slice (some ⟨gl, 0, none⟩) n n) (evK xs l n k) from HO.out.drewN 1)
      go_wp2_with fail
      go_region_held3 (fun W => W.cell? ⟨w.heap.size, 0, none⟩ = some (.int .i64 n) ∧ W.cell? ⟨w.heap.size, 1, none⟩ = some (.slice A n c))
        (first | exact ⟨y0, y1⟩ | exact HXd.out | exact HX3.out | exact HX4.out | exact HX5.out | exact HX6.out)
        (first
          | (go_at_call 121; refine (HPF.out _ w4 (HR.out.below HB4.out) HR4.out).mono ?_; rintro e w5 ⟨rfl, hb5⟩; have HX5 := Lib.hid (HX4.out.below hb5); have HB5 := Lib.hid (Below.then HB4.out hb5); have HO5 := Lib.hid (HO4.out.below hb5); have hst := HO5.out.set_ (evK_len xs l n k) b P; have HOS := Lib.hid hst.1; have hcs := HO5.out.at1 (evK_len xs l n k) hn1; have zc := hcs.1 b hbn; have zf := hcs.2 b; have HX6 := Lib.hid (HX5.out.kept hst.2 (by have := HGL.out; simp; omega)); have HBS := Lib.hid (HB5.out.grown hst.2 HB5.out.size (fun q e => by injection e with e; have := HGL.out; omega)); clear hb5 hst hcs)
          | (go_at_call 122; refine (delete_own wo.drew.heap.size g3 m d3 k (nI l) w3 HO3.out HLEN.out hlt).mono ?_; rintro e w4 ⟨rfl, ho4, hb4⟩; have HB4 := Lib.hid (hb4 w.heap.size w BD.out.size HB3.out); have hb43 := hb4 wo.drew.heap.size wo.drew (Nat.le_refl _) HB03.out; have HX4 := Lib.hid (HXd.out.below hb43); have HO4 := Lib.hid (HOd.out.below hb43); have HR4 := Lib.hid (show Rd w4 _ (nI (l.eraseIdx k)) by rw [HEI.out]; exact ho4.rd); clear ho4 hb4 hb43)
          | (go_at_call 109; refine (clone_any _ (nI l) wo.drew (HV.out.below BD.out) (by rw [HLEN.out]; omega) (by rw [HLEN.out]; omega)).mono ?_; rintro e w3 ⟨v3, rfl, ho3, hb3⟩; obtain ⟨g3, d3, rfl, -, -, -, -, -⟩ := ho3.at_ HLEN.out h1; have HO3 := Lib.hid ho3; have HX3 := Lib.hid (HXd.out.below hb3); have HB3 := Lib.hid (Below.then BD.out hb3); have HB03 := Lib.hid hb3; clear ho3 hb3))
      rcases Nat.mod_two_eq_zero_or_one k with hk2 | hk2
      · rw [if_neg (by omega), Int.one_mul] at HES
        have t1 : Int.tmod (k : Int) 2 = 0 := by rw [Int.tmod_eq_emod_of_nonneg (by omega)]; omega
        have t2 : (k : Int) % 2 = 0 := by omega
        have HON := Lib.hid (show Own (w5.setCell ⟨gl, b, none⟩ (.int .i64 P)) w.heap.size (.slice (some ⟨gl, 0, none⟩) n n) (evK xs l n (k + 1)) by rw [HKS.out, HES.out]; exact HOS.out)
        clear HKS HES HOS HPF er er2 hk2
        go_wp2
        go_roundw
        case rel => exact ⟨k + 1, by omega, by go_num, HON, HX6, HBS⟩
        case measure => simp [intOf]; omega
      · rw [if_pos hk2, Int.neg_one_mul] at HES
        have t1 : Int.tmod (k : Int) 2 = 1 := by rw [Int.tmod_eq_emod_of_nonneg (by omega)]; omega
        have t2 : (k : Int) % 2 = 1 := by omega
        have un : IntKind.i64.wrap (-P) = -P := IntWalk.i64_in _ (by omega)
        have hst := HOS.out.set_ (by rw [List.length_set, evK_len]) b (-P)
        rw [List.set_set] at hst
        have HON := Lib.hid (show Own ((w5.setCell ⟨gl, b, none⟩ (.int .i64 P)).setCell ⟨gl, b, none⟩ (.int .i64 (-P))) w.heap.size (.slice (some ⟨gl, 0, none⟩) n n) (evK xs l n (k + 1)) by rw [HKS.out, HES.out]; exact hst.1)
        have HX7 := Lib.hid (HX6.out.kept hst.2 (by have := HGL.out; simp; omega))
        have HBT := Lib.hid (HBS.out.grown hst.2 HBS.out.size (fun q e => by injection e with e; have := HGL.out; omega))
        clear HKS HES HOS HPF er er2 hk2 hst
        go_wp2
        go_roundw
        case rel => exact ⟨k + 1, by omega, by go_num, HON, HX7, HBT⟩
        case measure => simp [intOf]; omega
    · as_aux_lemma =>
      obtain rfl : k = m := by omega
      have hK := HKB.out k (Nat.le_refl _)
      have hl0 : 0 < l.length := by rw [← HML.out]; omega
      have hb0 : l.getD 0 0 < n := HM.out _ (by rw [getD_nat hl0]; exact List.getElem_mem hl0)
      have hz0 : w.cell? ⟨g, off, none⟩ = some (.int .i64 (l.getD 0 0 : Nat)) := by
        have := HC.out 0 (by omega)
        rw [nI_getD hl0] at this
        exact this
      have zl := (HB.out.cell (p := ⟨g, off, none⟩) hg).trans hz0
      have HVD : Hid (evV xs l n = if (evK xs l n k).getD (l.getD 0 0) 0 < 0 then (evK xs l n k).map (fun x => -x) else evK xs l n k) := Lib.hid (by rw [HML.out]; rfl)
      have HVB := Lib.hid (evV_bd (xs := xs) (l := l) (n := n) (by rw [← HML.out]; exact hK))
      have HKL := Lib.hid (evK_len xs l n k)
      have HKK := Lib.hid hK
      obtain ⟨hc1, hc2⟩ := HO.out.at1 HKL.out hn1
      have z0 := hc1 _ hb0
      clear hz0 er er2 hev hc1 hc2 hK
      generalize evK xs l n k = E at *
      generalize l.getD 0 0 = b at *
      generalize E.getD b 0 = x0 at *
      have hdc : (decide (x0 < 0) = true ∧ x0 < 0) ∨ (decide (x0 < 0) = false ∧ ¬ x0 < 0) := by
        by_cases h : x0 < 0
        · exact .inl ⟨decide_eq_true h, h⟩
        · exact .inr ⟨decide_eq_false h, h⟩
      rcases hdc with ⟨d1, d2⟩ | ⟨d1, d2⟩
      · rw [if_pos d2] at HVD
        go_wp2
        go_loopw [57] (fun t57 wr => ∃ (j : Nat), j ≤ n ∧ t57 = .int .i64 j ∧ Hid (Own wr w.heap.size (.slice (some ⟨gl, 0, none⟩) n n) ((E.map fun x => -x).take j ++ E.drop j)) ∧ Hid (Below w.heap.size w wr)) (fun t57 _ => n - (intOf t57).toNat)
        case atStart => exact ⟨0, by omega, rfl, by simpa using HO, HB⟩
        case round =>
          obtain ⟨wi, rfl⟩ : ∃ x, x = wr := ⟨_, rfl⟩
          obtain ⟨j, hj, rfl, HOi, HBi⟩ := hrel
          have HLi : Hid (((E.map fun x => -x).take j ++ E.drop j).length = n) := Lib.hid (by
            rw [List.length_append, List.length_take, List.length_map, List.length_drop, HKL.out]; omega)
          by_cases hltj : j < n
          · obtain ⟨hc1, hc2⟩ := HOi.out.at1 HLi.out hn1
            have z1 := hc1 j hltj
            have f1 := hc2 j
            have hg0 : ((E.map fun x => -x).take j ++ E.drop j).getD j 0 = E.getD j 0 := by
              rw [List.getD_eq_getElem?_getD, List.getElem?_append_right (by rw [List.length_take, List.length_map, HKL.out]; omega), List.length_take, List.length_map, HKL.out, Nat.min_eq_left (by omega), Nat.sub_self, List.getElem?_drop, Nat.add_zero, ← List.getD_eq_getElem?_getD]
            rw [hg0] at z1
            have hst := HOi.out.set_ HLi.out j (-(E.getD j 0))
            rw [set_map_take (fun x => -x) E j (by rw [HKL.out]; exact hltj)] at hst
            have HSO := Lib.hid hst.1
            have HSB := Lib.hid (HBi.out.grown hst.2 HBi.out.size (fun q e => by injection e with e; have := HGL.out; omega))
            have hb := HKK.out j
            generalize E.getD j 0 = x at *
            have u1 : IntKind.i64.wrap (-x) = -x := IntWalk.i64_in _ (by omega)
            clear hst hg0 hc1 hc2
            go_wp2
            go_roundw
            case rel => exact ⟨j + 1, by omega, by go_num, HSO, HSB⟩
            case measure => simp [intOf]; omega
          · obtain rfl : n = j := by omega
            have HF : Hid (Own wi w.heap.size (.slice (some ⟨gl, 0, none⟩) n n) (evV xs l n)) := Lib.hid (by
              have := HOi.out
              rw [List.drop_of_length_le (by rw [HKL.out]; exact Nat.le_refl _), List.append_nil, List.take_of_length_le (by rw [List.length_map, HKL.out]; exact Nat.le_refl _), ← HVD.out] at this
              exact this)
            obtain ⟨wi0, rfl⟩ : ∃ x, x = wi := ⟨_, rfl⟩
            have HOc := HF
            have HBc := HBi
            clear HF HBi HOi HLi
            have HVL := Lib.hid (evV_len xs l n)
            have HVO := Lib.hid (fun j (hj : j ∉ l) => evV_out (xs := xs) (n := n) hj)
            have HGD : Hid (evG xs l n = l.all fun a => decide (0 < (evV xs l n).getD a 0)) := Lib.hid rfl
            clear HO HB HX z0 HVD HKK HKL zl HKB
            obtain ⟨V, hVe⟩ : ∃ V, V = evV xs l n := ⟨_, rfl⟩
            have HVE := Lib.hid hVe
            rw [← hVe] at HVL HVO HVB HGD HOc
            clear hVe
            go_wp2
            go_loopw [71] (fun t71 wr => ∃ (j : Nat), j ≤ k ∧ t71 = .int .i64 j ∧ Hid (∀ i, i < j → 0 < V.getD (l.getD i 0) 0) ∧ Hid (wr = wi0)) (fun t71 _ => k - (intOf t71).toNat)
            case atStart => exact ⟨0, by omega, rfl, Lib.hid (fun i hi => absurd hi (by omega)), Lib.hid rfl⟩
            case round =>
              obtain ⟨wi, rfl⟩ : ∃ x, x = wr := ⟨_, rfl⟩
              obtain ⟨j, hj, rfl, HJ, HW⟩ := hrel
              have HOi := Lib.hid (show Own wi w.heap.size (.slice (some ⟨gl, 0, none⟩) n n) V by rw [HW.out]; exact HOc.out)
              have HBi := Lib.hid (show Below w.heap.size w wi by rw [HW.out]; exact HBc.out)
              by_cases hltj : j < k
              · have hjl : j < l.length := by rw [← HML.out]; exact hltj
                have hzj : w.cell? ⟨g, off + j, none⟩ = some (.int .i64 (l.getD j 0 : Nat)) := by
                  have := HC.out j hltj
                  rw [nI_getD hjl] at this
                  exact this
                have zj := (HBi.out.cell (p := ⟨g, off + j, none⟩) hg).trans hzj
                have hbj : l.getD j 0 < n := HM.out _ (by rw [getD_nat hjl]; exact List.getElem_mem hjl)
                have zv := (HOi.out.at1 HVL.out hn1).1 _ hbj
                have HEX : Hid (¬ 0 < V.getD (l.getD j 0) 0 → evG xs l n = false) := Lib.hid fun h => by
                  rw [HGD.out, List.all_eq_false]
                  exact ⟨l.getD j 0, by rw [getD_nat hjl]; exact List.getElem_mem hjl, by simpa using h⟩
                have HJN : Hid (0 < V.getD (l.getD j 0) 0 → ∀ i, i < j + 1 → 0 < V.getD (l.getD i 0) 0) := Lib.hid fun h i hi => by
                  by_cases e : i = j
                  · subst e; exact h
                  · exact HJ.out i (by omega)
                clear hzj
                generalize l.getD j 0 = b2 at *
                generalize V.getD b2 0 = x at *
                by_cases hx : 0 < x
                · have d1 : decide (x ≤ 0) = false := by simp; omega
                  have d2 : ¬ x ≤ 0 := by omega
                  have HJJ := Lib.hid (HJN.out hx)
                  go_wp2
                  go_roundw
                  case rel => exact ⟨j + 1, by omega, by go_num, HJJ, HW⟩
                  case measure => simp [intOf]; omega
                · have d1 : decide (x ≤ 0) = true := by simp; omega
                  have d2 : x ≤ 0 := by omega
                  have HEE := Lib.hid (HEX.out hx)
                  go_wp2
                  go_ret
                  exact ⟨.slice none 0 0, rfl, fun h => absurd h (by rw [HEE.out]; decide), fun _ => rfl, HBi.out⟩
              · obtain rfl : j = k := by omega
                have HGT : Hid (evG xs l n = true) := Lib.hid (by
                  rw [HGD.out, List.all_eq_true]
                  intro a ha
                  obtain ⟨i, hi, rfl⟩ := List.getElem_of_mem ha
                  have := HJ.out i (by rw [HML.out]; exact hi)
                  rw [getD_nat hi] at this
                  simpa using this)
                have HPS : Hid (∀ x ∈ V, 0 ≤ x ∧ x ≤ 4611686018427387904) := Lib.hid fun x hx => by
                  obtain ⟨i, hi, rfl⟩ := List.getElem_of_mem hx
                  have hb := HVB.out i
                  have e : V.getD i 0 = V[i] := by simp [hi]
                  rw [e] at hb
                  by_cases hil : i ∈ l
                  · obtain ⟨q, hq, he⟩ := List.getElem_of_mem hil
                    have h1 := HJ.out q (by rw [HML.out]; exact hq)
                    rw [getD_nat hq, he, e] at h1
                    omega
                  · have h1 := HVO.out i hil
                    rw [e] at h1
                    omega
                have HNZ : Hid (gcdL V ≠ 0) := Lib.hid (by
                  have h1 := HJ.out 0 (by omega)
                  have hl0' : 0 < l.length := by rw [← HML.out]; omega
                  have hb := HM.out _ (show l.getD 0 0 ∈ l by rw [getD_nat hl0']; exact List.getElem_mem hl0')
                  have hbv : l.getD 0 0 < V.length := by rw [HVL.out]; exact hb
                  generalize l.getD 0 0 = b0 at *
                  have := gcdL_pos (xs := V) ⟨V[b0], List.getElem_mem _, by
                    have e : V.getD b0 0 = V[b0] := by simp [hbv]
                    rw [← e]; exact h1⟩
                  omega)
                have HVN : Hid (V ≠ []) := Lib.hid (by intro e; have h := HVL.out; rw [e, List.length_nil] at h; omega)
                go_wp2_with fail
                refine (lowest_any _ V wi HOi.out.rd HPS.out HNZ.out (by rw [HVL.out]; omega)).mono ?_
                rintro e w9 ⟨v9, rfl, ho9, hb9, hn9⟩
                have HO9 := Lib.hid (ho9.mono HBi.out.size)
                have HB9 := Lib.hid (Below.then HBi.out hb9)
                have HN9 := Lib.hid (hn9 HVN.out)
                clear ho9 hb9 hn9
                go_wp2
                go_ret
                exact ⟨v9, rfl, fun _ => ⟨by rw [← HVE.out]; exact HO9.out, HN9.out⟩, fun h => absurd h (by rw [HGT.out]; decide), HB9.out⟩
      · rw [if_neg d2] at HVD
        rw [← HVD.out] at HO
        have HOc := HO
        have HBc := HB
        have HVL := Lib.hid (evV_len xs l n)
        have HVO := Lib.hid (fun j (hj : j ∉ l) => evV_out (xs := xs) (n := n) hj)
        have HGD : Hid (evG xs l n = l.all fun a => decide (0 < (evV xs l n).getD a 0)) := Lib.hid rfl
        clear HX HVD HKK HKL HKB
        obtain ⟨V, hVe⟩ : ∃ V, V = evV xs l n := ⟨_, rfl⟩
        have HVE := Lib.hid hVe
        rw [← hVe] at HVL HVO HVB HGD HOc
        clear hVe
        go_wp2
        go_loopw [71] (fun t71 wr => ∃ (j : Nat), j ≤ k ∧ t71 = .int .i64 j ∧ Hid (∀ i, i < j → 0 < V.getD (l.getD i 0) 0) ∧ Hid (wr = wo)) (fun t71 _ => k - (intOf t71).toNat)
        case atStart => exact ⟨0, by omega, rfl, Lib.hid (fun i hi => absurd hi (by omega)), Lib.hid rfl⟩
        case round =>
          obtain ⟨wi, rfl⟩ : ∃ x, x = wr := ⟨_, rfl⟩
          obtain ⟨j, hj, rfl, HJ, HW⟩ := hrel
          have HOi := Lib.hid (show Own wi w.heap.size (.slice (some ⟨gl, 0, none⟩) n n) V by rw [HW.out]; exact HOc.out)
          have HBi := Lib.hid (show Below w.heap.size w wi by rw [HW.out]; exact HBc.out)
          by_cases hltj : j < k
          · have hjl : j < l.length := by rw [← HML.out]; exact hltj
            have hzj : w.cell? ⟨g, off + j, none⟩ = some (.int .i64 (l.getD j 0 : Nat)) := by
              have := HC.out j hltj
              rw [nI_getD hjl] at this
              exact this
            have zj := (HBi.out.cell (p := ⟨g, off + j, none⟩) hg).trans hzj
            have hbj : l.getD j 0 < n := HM.out _ (by rw [getD_nat hjl]; exact List.getElem_mem hjl)
            have zv := (HOi.out.at1 HVL.out hn1).1 _ hbj
            have HEX : Hid (¬ 0 < V.getD (l.getD j 0) 0 → evG xs l n = false) := Lib.hid fun h => by
              rw [HGD.out, List.all_eq_false]
              exact ⟨l.getD j 0, by rw [getD_nat hjl]; exact List.getElem_mem hjl, by simpa using h⟩
            have HJN : Hid (0 < V.getD (l.getD j 0) 0 → ∀ i, i < j + 1 → 0 < V.getD (l.getD i 0) 0) := Lib.hid fun h i hi => by
              by_cases e : i = j
              · subst e; exact h
              · exact HJ.out i (by omega)
            clear hzj
            generalize l.getD j 0 = b2 at *
            generalize V.getD b2 0 = x at *
            by_cases hx : 0 < x
            · have d1 : decide (x ≤ 0) = false := by simp; omega
              have d2 : ¬ x ≤ 0 := by omega
              have HJJ := Lib.hid (HJN.out hx)
              go_wp2
              go_roundw
              case rel => exact ⟨j + 1, by omega, by go_num, HJJ, HW⟩
              case measure => simp [intOf]; omega
            · have d1 : decide (x ≤ 0) = true := by simp; omega
              have d2 : x ≤ 0 := by omega
              have HEE := Lib.hid (HEX.out hx)
              go_wp2
              go_ret
              exact ⟨.slice none 0 0, rfl, fun h => absurd h (by rw [HEE.out]; decide), fun _ => rfl, HBi.out⟩
          · obtain rfl : j = k := by omega
            have HGT : Hid (evG xs l n = true) := Lib.hid (by
              rw [HGD.out, List.all_eq_true]
              intro a ha
              obtain ⟨i, hi, rfl⟩ := List.getElem_of_mem ha
              have := HJ.out i (by rw [HML.out]; exact hi)
              rw [getD_nat hi] at this
              simpa using this)
            have HPS : Hid (∀ x ∈ V, 0 ≤ x ∧ x ≤ 4611686018427387904) := Lib.hid fun x hx => by
              obtain ⟨i, hi, rfl⟩ := List.getElem_of_mem hx
              have hb := HVB.out i
              have e : V.getD i 0 = V[i] := by simp [hi]
              rw [e] at hb
              by_cases hil : i ∈ l
              · obtain ⟨q, hq, he⟩ := List.getElem_of_mem hil
                have h1 := HJ.out q (by rw [HML.out]; exact hq)
                rw [getD_nat hq, he, e] at h1
                omega
              · have h1 := HVO.out i hil
                rw [e] at h1
                omega
            have HNZ : Hid (gcdL V ≠ 0) := Lib.hid (by
              have h1 := HJ.out 0 (by omega)
              have hl0' : 0 < l.length := by rw [← HML.out]; omega
              have hb := HM.out _ (show l.getD 0 0 ∈ l by rw [getD_nat hl0']; exact List.getElem_mem hl0')
              have hbv : l.getD 0 0 < V.length := by rw [HVL.out]; exact hb
              generalize l.getD 0 0 = b0 at *
              have := gcdL_pos (xs := V) ⟨V[b0], List.getElem_mem _, by
                have e : V.getD b0 0 = V[b0] := by simp [hbv]
                rw [← e]; exact h1⟩
              omega)
            have HVN : Hid (V ≠ []) := Lib.hid (by intro e; have h := HVL.out; rw [e, List.length_nil] at h; omega)
            go_wp2_with fail
            refine (lowest_any _ V wi HOi.out.rd HPS.out HNZ.out (by rw [HVL.out]; omega)).mono ?_
            rintro e w9 ⟨v9, rfl, ho9, hb9, hn9⟩
            have HO9 := Lib.hid (ho9.mono HBi.out.size)
            have HB9 := Lib.hid (Below.then HBi.out hb9)
            have HN9 := Lib.hid (hn9 HVN.out)
            clear ho9 hb9 hn9
            go_wp2
            go_ret
            exact ⟨v9, rfl, fun _ => ⟨by rw [← HVE.out]; exact HO9.out, HN9.out⟩, fun h => absurd h (by rw [HGT.out]; decide), HB9.out⟩
end Go.Proofs.Ytajeledbmnndmaa

namespace Go.Proofs.Ytajeledbmnndmaa
set_option maxRecDepth 100000
theorem pfS_map (A : Nat → Nat → Int) (p : Nat → Nat) (h : Nat) (F G : List Nat → Int) (hFG : ∀ l, F (l.map p) = G l) : ∀ (t pre : List Nat) (s : Int), pfS A (p h) F (pre.map p) (t.map p) s = pfS (fun i k => A (p i) (p k)) h G pre t s := by
  intro t
  induction t with
  | nil => intro pre s; rfl
  | cons x t ih =>
    intro pre s
    have e := ih (pre ++ [x]) (-s)
    rw [List.map_append] at e
    simp only [List.map_cons, pfS]
    rw [← List.map_append, hFG]
    simp only [List.map_cons, List.map_nil] at e
    rw [e]
theorem pfF_map (A : Nat → Nat → Int) (p : Nat → Nat) : ∀ (f : Nat) (l : List Nat), pfF A f (l.map p) = pfF (fun i k => A (p i) (p k)) f l := by
  intro f
  induction f with
  | zero => intro l; rfl
  | succ f ih =>
    intro l
    cases l with
    | nil => rfl
    | cons h t =>
      simp only [List.map_cons, pfF]
      exact pfS_map A p h _ _ ih t [] 1
/-- the table of a list of players -/
def tabL (xs : List Int) (l : List Nat) (i k : Nat) : Int := sg xs (l.getD i 0) (l.getD k 0)
theorem eraseIdx_map {α β : Type} (f : α → β) : ∀ (L : List α) (k : Nat), (L.map f).eraseIdx k = (L.eraseIdx k).map f := by
  intro L
  induction L with
  | nil => intro k; rfl
  | cons a L ih =>
    intro k
    cases k with
    | zero => rfl
    | succ k => simp only [List.map_cons, List.eraseIdx_cons_succ, ih]
theorem erase_map (l : List Nat) (k : Nat) : l.eraseIdx k = ((List.range l.length).eraseIdx k).map fun i => l.getD i 0 := by
  have e : l = (List.range l.length).map fun i => l.getD i 0 := List.ext_getElem (by simp) fun i h1 h2 => by simp [h1]
  have h2 := eraseIdx_map (fun i => l.getD i 0) (List.range l.length) k
  rw [← h2, ← e]
theorem evS_pf (xs : List Int) (l : List Nat) (k : Nat) : evS xs l k = pfV (tabL xs l) l.length k := by
  unfold evS pfV
  rw [erase_map l k, pfF_map]
  rfl
theorem tabL_sk {n : Nat} {xs : List Int} (hp : tourP n xs) {l : List Nat} (hnd : l.Nodup) (hm : ∀ x ∈ l, x < n) : SkT (tabL xs l) l.length := by
  have hs := sg_sk hp
  have hin : ∀ i, i < l.length → l.getD i 0 < n := fun i hi => hm _ (by rw [getD_nat hi]; exact List.getElem_mem hi)
  have hne : ∀ i k, i < l.length → k < l.length → i ≠ k → l.getD i 0 ≠ l.getD k 0 := fun i k hi hk h e => h (by
    rw [getD_nat hi, getD_nat hk] at e; exact (List.getElem_inj hnd).1 e)
  exact ⟨fun i hi => hs.diag _ (hin i hi), fun i k hi hk => hs.skew _ _ (hin i hi) (hin k hk), fun i k hi hk h => hs.one _ _ (hin i hi) (hin k hk) (hne i k hi hk h)⟩
/-- the weight that stands at a player of the list -/
theorem evK_at {xs : List Int} {l : List Nat} {n : Nat} (hnd : l.Nodup) (hm : ∀ x ∈ l, x < n) : ∀ k, k ≤ l.length → ∀ i, i < k → (evK xs l n k).getD (l.getD i 0) 0 = evS xs l i := by
  intro k
  induction k with
  | zero => intro _ i hi; omega
  | succ k ih =>
    intro hk i hi
    have hb : l.getD k 0 < (evK xs l n k).length := by rw [evK_len]; exact hm _ (by rw [getD_nat (by omega)]; exact List.getElem_mem _)
    simp only [evK]
    by_cases e : i = k
    · subst e
      rw [List.getD_eq_getElem?_getD, List.getElem?_set_self hb]
      rfl
    · have hne : l.getD k 0 ≠ l.getD i 0 := fun h => e (by
        rw [getD_nat (show k < l.length by omega), getD_nat (show i < l.length by omega)] at h
        exact ((List.getElem_inj hnd).1 h).symm)
      rw [List.getD_eq_getElem?_getD, List.getElem?_set_ne hne, ← List.getD_eq_getElem?_getD]
      exact ih (by omega) i (by omega)
end Go.Proofs.Ytajeledbmnndmaa

namespace Go.Proofs.Ytajeledbmnndmaa
set_option maxRecDepth 100000
/-- an entry of a list of rows -/
def mE (L : List (List Int)) (r i : Nat) : Int := (L.getD r []).getD i 0
/-- the rows behind the exchange of p and c -/
def swR (L : List (List Int)) (c p : Nat) : List (List Int) := (L.set p (L.getD c [])).set c (L.getD p [])
/-- the rows of which the first r are reduced by row c -/
def rdR (S : List (List Int)) (c r : Nat) : List (List Int) := (List.range S.length).map fun k => if k < r ∧ k ≠ c ∧ mE S k c ≠ 0 then redL (S.getD k []) (S.getD c []) c else S.getD k []
theorem swR_len (L : List (List Int)) (c p : Nat) : (swR L c p).length = L.length := by simp [swR]
theorem swR_at {L : List (List Int)} {c p k : Nat} (hk : k < L.length) : (swR L c p).getD k [] = if k = c then L.getD p [] else if k = p then L.getD c [] else L.getD k [] := by
  unfold swR
  rw [List.getD_eq_getElem?_getD, List.getElem?_set]
  by_cases h1 : c = k
  · subst h1
    rw [if_pos rfl, if_pos (by rw [List.length_set]; exact hk), if_pos rfl]; rfl
  · rw [if_neg h1, if_neg (fun h => h1 h.symm), List.getElem?_set]
    by_cases h2 : p = k
    · subst h2
      rw [if_pos rfl, if_pos hk, if_pos rfl]; rfl
    · rw [if_neg h2, if_neg (fun h => h2 h.symm), ← List.getD_eq_getElem?_getD]
theorem rdR_len (S : List (List Int)) (c r : Nat) : (rdR S c r).length = S.length := by simp [rdR]
theorem rdR_at {S : List (List Int)} {c r k : Nat} (hk : k < S.length) : (rdR S c r).getD k [] = if k < r ∧ k ≠ c ∧ mE S k c ≠ 0 then redL (S.getD k []) (S.getD c []) c else S.getD k [] := by
  unfold rdR
  simp [List.getD_eq_getElem?_getD, hk]
theorem rows_ext {L M : List (List Int)} (h : L.length = M.length) (he : ∀ k, k < L.length → L.getD k [] = M.getD k []) : L = M := by
  refine List.ext_getElem h fun i h1 h2 => ?_
  have := he i h1
  rwa [List.getD_eq_getElem?_getD, List.getD_eq_getElem?_getD, List.getElem?_eq_getElem h1, List.getElem?_eq_getElem h2] at this
theorem rdR_zero (S : List (List Int)) (c : Nat) : rdR S c 0 = S := rows_ext (rdR_len _ _ _) fun k hk => by
  rw [rdR_len] at hk
  rw [rdR_at hk, if_neg (fun h => absurd h.1 (by omega))]
theorem rdR_keep {S : List (List Int)} {c r : Nat} (h : ¬ (r ≠ c ∧ mE S r c ≠ 0)) : rdR S c (r + 1) = rdR S c r := rows_ext (by rw [rdR_len, rdR_len]) fun k hk => by
  rw [rdR_len] at hk
  rw [rdR_at hk, rdR_at hk]
  by_cases e : k = r
  · subst e
    rw [if_neg (fun q => h q.2), if_neg (fun q => h q.2)]
  · by_cases q : k < r ∧ k ≠ c ∧ mE S k c ≠ 0
    · rw [if_pos q, if_pos ⟨by omega, q.2⟩]
    · rw [if_neg q, if_neg (fun q2 => q ⟨by omega, q2.2⟩)]
theorem rdR_red {S : List (List Int)} {c r : Nat} (hr : r < S.length) (h1 : r ≠ c) (h2 : mE S r c ≠ 0) : rdR S c (r + 1) = (rdR S c r).set r (redL (S.getD r []) (S.getD c []) c) := rows_ext (by rw [List.length_set, rdR_len, rdR_len]) fun k hk => by
  rw [rdR_len] at hk
  rw [rdR_at hk]
  by_cases e : k = r
  · subst e
    rw [if_pos ⟨by omega, h1, h2⟩, List.getD_eq_getElem?_getD (l := List.set _ _ _), List.getElem?_set_self (by rw [rdR_len]; exact hk)]; rfl
  · rw [List.getD_eq_getElem?_getD (l := List.set _ _ _), List.getElem?_set_ne (fun q => e q.symm), ← List.getD_eq_getElem?_getD, rdR_at hk]
    by_cases q : k < r ∧ k ≠ c ∧ mE S k c ≠ 0
    · rw [if_pos q, if_pos ⟨by omega, q.2⟩]
    · rw [if_neg q, if_neg (fun q2 => q ⟨by omega, q2.2⟩)]
theorem rdR_own {S : List (List Int)} {c r : Nat} (hr : r < S.length) : (rdR S c r).getD r [] = S.getD r [] := by
  rw [rdR_at hr, if_neg (fun h => absurd h.1 (by omega))]
theorem rdR_piv {S : List (List Int)} {c r : Nat} (hc : c < S.length) : (rdR S c r).getD c [] = S.getD c [] := by
  rw [rdR_at hc, if_neg (fun h => h.2.1 rfl)]
/-- all rows are n long -/
def rowsN (L : List (List Int)) (n : Nat) : Prop := L.length = n ∧ ∀ k, k < n → (L.getD k []).length = n
theorem swR_N {L : List (List Int)} {n c p : Nat} (h : rowsN L n) (hc : c < n) (hp : p < n) : rowsN (swR L c p) n := by
  refine ⟨by rw [swR_len]; exact h.1, fun k hk => ?_⟩
  rw [swR_at (by rw [h.1]; exact hk)]
  split
  · exact h.2 p hp
  · split
    · exact h.2 c hc
    · exact h.2 k hk
theorem rdR_N {S : List (List Int)} {n c : Nat} (h : rowsN S n) (r : Nat) : rowsN (rdR S c r) n := by
  refine ⟨by rw [rdR_len]; exact h.1, fun k hk => ?_⟩
  rw [rdR_at (by rw [h.1]; exact hk)]
  split
  · rw [redL_len]; exact h.2 k hk
  · exact h.2 k hk
theorem gs_congr {A M M' : Nat → Nat → Int} {n c : Nat} (h : GsS A n c M) (hc : c ≤ n) (he : ∀ r i, r < n → i < n → M' r i = M r i) : GsS A n c M' := by
  have hs : ∀ (w : Nat → Int) r, r < n → sumN (fun i => M' r i * w i) n = sumN (fun i => M r i * w i) n := fun w r hr => sumN_congr fun i hi => by rw [he r i hr hi]
  refine ⟨?_, ?_, ?_, ?_, ?_, ?_, ?_, ?_⟩
  · intro w hw r hr; rw [hs w r hr]; exact h.sol w hw r hr
  · intro w hw; exact h.los w fun r hr => by rw [← hs w r hr]; exact hw r hr
  · intro r j hr hj hjc hjr; rw [he r j hr hj]; exact h.zero r j hr hj hjc hjr
  · intro r hr; rw [he r r (by omega) (by omega)]; exact h.piv r hr
  · intro r i hr hi; rw [he r i hr hi]; exact h.bd r i hr hi
  · intro h1 h2 r hr; rw [he r c hr h2]; exact h.col h1 h2 r hr
  · intro h0 r i hr hi; rw [he r i hr hi]; exact h.ini h0 r i hr hi
  · intro r hr d hd
    rcases h.prim r hr d (fun i hi => by rw [← he r i hr hi]; exact hd i hi) with e | e
    · exact .inl e
    · exact .inr fun i hi => by rw [he r i hr hi]; exact e i hi
/-- the table of a list -/
def tbL (xs : List Int) (l : List Nat) : List (List Int) := l.map fun b => l.map fun a => sg xs a b
theorem tbL_N (xs : List Int) (l : List Nat) : rowsN (tbL xs l) l.length := by
  refine ⟨by simp [tbL], fun k hk => ?_⟩
  unfold tbL
  simp [List.getD_eq_getElem?_getD, hk]
theorem tbL_at {xs : List Int} {l : List Nat} {r i : Nat} (hr : r < l.length) (hi : i < l.length) : mE (tbL xs l) r i = tabL xs l i r := by
  unfold mE tbL tabL
  simp [List.getD_eq_getElem?_getD, hr, hi]
theorem ks_start {xs : List Int} {l : List Nat} (hA : SkT (tabL xs l) l.length) : GsS (tabL xs l) l.length 0 (mE (tbL xs l)) :=
  gs_congr (gs_start hA) (Nat.zero_le _) fun _ _ hr hi => tbL_at hr hi
theorem ks_step {A : Nat → Nat → Int} {L : List (List Int)} {n c p : Nat} (hA : SkT A n) (hN : rowsN L n) (h : GsS A n c (mE L)) (hc : c + 1 < n) (h7 : n ≤ 7) (hcp : c ≤ p) (hp : p < n) (hpc : mE L p c ≠ 0) (hfirst : ∀ q, c ≤ q → q < p → mE L q c = 0) :
    GsS A n (c + 1) (mE (rdR (swR L c p) c n)) := by
  have hS := swR_N hN (show c < n by omega) hp
  have hcc : (swR L c p).getD c [] = L.getD p [] := by rw [swR_at (by rw [hN.1]; omega), if_pos rfl]
  refine gs_step hA h hc h7 hcp hp hpc hfirst ?_ ?_
  · intro i hi
    unfold mE
    rw [rdR_piv (by rw [hS.1]; omega), hcc]
  · intro r hr hrc
    have hrS : (swR L c p).getD r [] = L.getD (if r = p then c else r) [] := by
      rw [swR_at (by rw [hN.1]; exact hr), if_neg hrc]
      split <;> rfl
    have hs : (if r = p then c else r) < n := by split <;> omega
    have he : mE (swR L c p) r c = mE L (if r = p then c else r) c := by unfold mE; rw [hrS]
    constructor
    · intro h0 i hi
      unfold mE
      rw [rdR_at (by rw [hS.1]; exact hr), if_neg (fun q => q.2.2 (by rw [he]; exact h0)), hrS]
    · intro h0
      have e : mE (rdR (swR L c p) c n) r = fun i => (redL (L.getD (if r = p then c else r) []) (L.getD p []) c).getD i 0 := by
        funext i
        unfold mE
        rw [rdR_at (by rw [hS.1]; exact hr), if_pos ⟨hr, hrc, by rw [he]; exact h0⟩, hrS, hcc]
      rw [e]
      exact redL_P (hN.2 _ hs)
/-- the least common multiple of the first pivots -/
def lcN (d : Nat → Nat) : Nat → Nat
  | 0 => 1
  | k + 1 => lcN d k / Nat.gcd (lcN d k) (d k) * d k
theorem lcN_lcm (d : Nat → Nat) (k : Nat) : lcN d (k + 1) = Nat.lcm (lcN d k) (d k) := by
  show lcN d k / Nat.gcd (lcN d k) (d k) * d k = lcN d k * d k / Nat.gcd (lcN d k) (d k)
  exact Nat.div_mul_right_comm (Nat.gcd_dvd_left _ _) _
theorem lcN_facts {d : Nat → Nat} {P : Nat} (hP : 0 < P) : ∀ k, (∀ r, r < k → d r ∣ P) → lcN d k ∣ P ∧ 0 < lcN d k ∧ ∀ r, r < k → d r ∣ lcN d k := by
  intro k
  induction k with
  | zero => intro _; exact ⟨Nat.one_dvd _, Nat.one_pos, fun r h => absurd h (by omega)⟩
  | succ k ih =>
    intro h
    obtain ⟨h1, h2, h3⟩ := ih fun r hr => h r (by omega)
    rw [lcN_lcm]
    have hl := Nat.lcm_dvd h1 (h k (by omega))
    refine ⟨hl, Nat.pos_of_dvd_of_pos hl hP, fun r hr => ?_⟩
    by_cases e : r = k
    · subst e; exact Nat.dvd_lcm_right _ _
    · exact Nat.dvd_trans (h3 r (by omega)) (Nat.dvd_lcm_left _ _)
/-- the weights before they come down: the first k of them -/
def ouE (L : List (List Int)) (n : Nat) (sc : Int) (i : Nat) : Int := Int.tdiv (-(mE L i (n - 1)) * sc) (mE L i i)
def ouL (L : List (List Int)) (n : Nat) (sc : Int) (k : Nat) : List Int := (List.range n).map fun i => if i = n - 1 then sc else if i < k then ouE L n sc i else 0
theorem ouL_len (L : List (List Int)) (n : Nat) (sc : Int) (k : Nat) : (ouL L n sc k).length = n := by simp [ouL]
theorem ouL_at {L : List (List Int)} {n : Nat} {sc : Int} {k i : Nat} (hi : i < n) : (ouL L n sc k).getD i 0 = if i = n - 1 then sc else if i < k then ouE L n sc i else 0 := by
  unfold ouL
  simp [List.getD_eq_getElem?_getD, hi]
theorem ints_ext {L M : List Int} (h : L.length = M.length) (he : ∀ k, k < L.length → L.getD k 0 = M.getD k 0) : L = M := by
  refine List.ext_getElem h fun i h1 h2 => ?_
  have := he i h1
  rwa [List.getD_eq_getElem?_getD, List.getD_eq_getElem?_getD, List.getElem?_eq_getElem h1, List.getElem?_eq_getElem h2] at this
theorem ouL_zero (L : List (List Int)) {n : Nat} (sc : Int) (_hn : 0 < n) : (List.replicate n (0 : Int)).set (n - 1) sc = ouL L n sc 0 := ints_ext (by rw [ouL_len]; simp) fun k hk => by
  simp only [List.length_set, List.length_replicate] at hk
  rw [ouL_at hk, List.getD_eq_getElem?_getD, List.getElem?_set]
  by_cases e : n - 1 = k
  · rw [if_pos e, if_pos (by simp; omega), if_pos e.symm]; rfl
  · rw [if_neg e, if_neg (fun h => e h.symm), if_neg (by omega)]
    simp [hk]
theorem ouL_succ (L : List (List Int)) {n : Nat} (sc : Int) {k : Nat} (hk : k < n - 1) : (ouL L n sc k).set k (ouE L n sc k) = ouL L n sc (k + 1) := ints_ext (by rw [List.length_set, ouL_len, ouL_len]) fun j hj => by
  rw [List.length_set, ouL_len] at hj
  rw [ouL_at hj, List.getD_eq_getElem?_getD, List.getElem?_set]
  by_cases e : k = j
  · subst e
    rw [if_pos rfl, if_pos (by rw [ouL_len]; exact hj), if_neg (by omega), if_pos (by omega)]; rfl
  · rw [if_neg e, ← List.getD_eq_getElem?_getD, ouL_at hj]
    split
    · rfl
    · by_cases q : j < k
      · rw [if_pos q, if_pos (by omega)]
      · rw [if_neg q, if_neg (by omega)]
def pvD (L : List (List Int)) (r : Nat) : Nat := (mE L r r).natAbs
structure KerF (A : Nat → Nat → Int) (n : Nat) (L : List (List Int)) : Prop where
  last : mE L (n - 1) (n - 1) = 0
  piv : ∀ r, r < n - 1 → mE L r r ≠ 0 ∧ (mE L r r).natAbs ≤ 15 ∧ (mE L r (n - 1)).natAbs ≤ 15
  sc : ∀ k, k ≤ n - 1 → 0 < lcN (pvD L) k ∧ lcN (pvD L) k ≤ 15
  ou : ∀ i, i < n → (ouL L n (lcN (pvD L) (n - 1)) (n - 1)).getD i 0 * pfV A n (n - 1) = (lcN (pvD L) (n - 1) : Int) * pfV A n i
theorem ker_f {A : Nat → Nat → Int} {n : Nat} {L : List (List Int)} (hA : SkT A n) (hodd : n % 2 = 1) (h7 : n ≤ 7) (h : GsS A n (n - 1) (mE L)) : KerF A n L := by
  obtain ⟨h1, h2⟩ := gs_end hA hodd h7 h
  have hlast := pfV_facts hA hodd h7 (i := n - 1) (by omega)
  have hP : 0 < (pfV A n (n - 1)).natAbs := by omega
  have hd : ∀ r, r < n - 1 → pvD L r ∣ (pfV A n (n - 1)).natAbs := fun r hr => Int.natAbs_dvd_natAbs.2 (h2 r hr).2.2.1
  have hsc := fun k (hk : k ≤ n - 1) => lcN_facts hP k fun r hr => hd r (by omega)
  refine ⟨h1, fun r hr => ⟨(h2 r hr).1, (h2 r hr).2.2.2.1, (h2 r hr).2.2.2.2⟩, fun k hk => ⟨(hsc k hk).2.1, ?_⟩, fun i hi => ?_⟩
  · have := Nat.le_of_dvd hP (hsc k hk).1
    omega
  · rw [ouL_at hi]
    by_cases e : i = n - 1
    · subst e; rw [if_pos rfl]
    · rw [if_neg e, if_pos (by omega)]
      obtain ⟨q1, q2, -, -, -⟩ := h2 i (by omega)
      have hdv : mE L i i ∣ (lcN (pvD L) (n - 1) : Int) := Int.natAbs_dvd_natAbs.1 (by
        have := (hsc (n - 1) (Nat.le_refl _)).2.2 i (by omega)
        exact this)
      generalize (lcN (pvD L) (n - 1) : Int) = s at *
      have hm : mE L i i * ouE L n s i = -(mE L i (n - 1)) * s := Int.mul_tdiv_cancel' (Int.dvd_trans hdv (Int.dvd_mul_left _ _))
      have : mE L i i * (ouE L n s i * pfV A n (n - 1)) = mE L i i * (s * pfV A n i) := by
        rw [← Int.mul_assoc, hm, Int.mul_comm s, ← Int.mul_assoc, q2, Int.mul_assoc, Int.mul_assoc, Int.mul_comm s]
      exact Int.eq_of_mul_eq_mul_left q1 this
/-- the kernel's row -/
def krL (xs : List Int) (l : List Nat) (n : Nat) : List Int := l.map fun a => (lowL (evV xs l n)).getD a 0
theorem ker_ans {xs : List Int} {l : List Nat} {n : Nat} {L : List (List Int)} (hp : tourP n xs) (hl : l.length % 2 = 1) (h7 : l.length ≤ 7) (hnd : l.Nodup) (hm : ∀ x ∈ l, x < n) (hK : KerF (tabL xs l) l.length L) {O : List Int} (hO : O = ouL L l.length (lcN (pvD L) (l.length - 1)) (l.length - 1)) :
    (evG xs l n = true ↔ ∀ i, i < l.length → 0 < O.getD i 0) ∧ (evG xs l n = true → lowL O = krL xs l n) := by
  have hA := tabL_sk hp hnd hm
  have hlO : O.length = l.length := by rw [hO, ouL_len]
  obtain ⟨hs1, hs2⟩ := hK.sc (l.length - 1) (Nat.le_refl _)
  have hou := hK.ou
  rw [← hO] at hou
  generalize lcN (pvD L) (l.length - 1) = s at *
  have hlast := pfV_facts hA hl h7 (i := l.length - 1) (by omega)
  have hfirst := pfV_facts hA hl h7 (i := 0) (by omega)
  have hV : ∀ i, i < l.length → (evV xs l n).getD (l.getD i 0) 0 = if pfV (tabL xs l) l.length 0 < 0 then -(pfV (tabL xs l) l.length i) else pfV (tabL xs l) l.length i := fun i hi => by
    have e0 := evK_at (xs := xs) hnd hm l.length (Nat.le_refl _) 0 (by omega)
    have ei := evK_at (xs := xs) hnd hm l.length (Nat.le_refl _) i hi
    rw [evS_pf] at e0 ei
    unfold evV
    rw [e0]
    split
    · rw [neg_getD, ei]
    · exact ei
  have hG : evG xs l n = true ↔ ∀ i, i < l.length → 0 < (evV xs l n).getD (l.getD i 0) 0 := by
    unfold evG
    rw [List.all_eq_true]
    constructor
    · intro h i hi
      have := h (l.getD i 0) (by rw [getD_nat hi]; exact List.getElem_mem _)
      simpa using this
    · intro h a ha
      obtain ⟨i, hi, rfl⟩ := List.getElem_of_mem ha
      have := h i hi
      rw [getD_nat hi] at this
      simpa using this
  have hsP : (0 : Int) < (s : Int) := by omega
  have hf : ∀ i, i < l.length → pfV (tabL xs l) l.length i ≠ 0 := fun i hi => by
    have := pfV_facts hA hl h7 hi
    omega
  -- one weight by the other
  obtain ⟨P, hPe⟩ : ∃ P, P = (pfV (tabL xs l) l.length (l.length - 1)).natAbs := ⟨_, rfl⟩
  have hP0 : (0 : Int) < (P : Int) := by omega
  have key : 0 < (evV xs l n).getD (l.getD (l.length - 1) 0) 0 → ∀ i, i < l.length → (P : Int) * O.getD i 0 = (s : Int) * (evV xs l n).getD (l.getD i 0) 0 := by
    intro h0 i hi
    have h1 := hou i hi
    rw [hV _ (by omega)] at h0
    rw [hV i hi]
    split at h0
    · rename_i hneg
      rw [if_pos hneg]
      have e : (P : Int) = -(pfV (tabL xs l) l.length (l.length - 1)) := by omega
      rw [e, Int.neg_mul, Int.mul_comm, h1, Int.mul_neg]
    · rename_i hneg
      rw [if_neg hneg]
      have e : (P : Int) = pfV (tabL xs l) l.length (l.length - 1) := by omega
      rw [e, Int.mul_comm, h1]
  have hiff : evG xs l n = true ↔ ∀ i, i < l.length → 0 < O.getD i 0 := by
    rw [hG]
    constructor
    · intro h i hi
      have hk := key (h _ (by omega)) i hi
      have h1 : 0 < (s : Int) * (evV xs l n).getD (l.getD i 0) 0 := Int.mul_pos hsP (h i hi)
      rw [← hk] at h1
      exact Int.pos_of_mul_pos_right h1 hP0
    · intro h i hi
      rw [hV i hi]
      have hsign : ∀ j, j < l.length → (0 < pfV (tabL xs l) l.length j ↔ 0 < pfV (tabL xs l) l.length (l.length - 1)) := fun j hj => by
        have h1 := hou j hj
        have h2 := h j hj
        constructor
        · intro h3
          have h4 : 0 < (s : Int) * pfV (tabL xs l) l.length j := Int.mul_pos hsP h3
          rw [← h1] at h4
          exact Int.pos_of_mul_pos_right h4 h2
        · intro h3
          have h4 := Int.mul_pos h2 h3
          rw [h1] at h4
          exact Int.pos_of_mul_pos_right h4 hsP
      have a := hsign i hi
      have b := hsign 0 (by omega)
      have c := hf i hi
      have d := hf 0 (by omega)
      split <;> omega
  refine ⟨hiff, fun hg => ?_⟩
  have hpos := hG.1 hg
  have hk := key (hpos _ (by omega))
  have hW : lowL O = lowL (l.map fun a => (evV xs l n).getD a 0) := by
    refine low_eq (c := P) (d := s) (by omega) hs1 (ints_ext (by simp [hlO]) fun i hi => ?_)
    rw [List.length_map, hlO] at hi
    have e1 : (O.map fun x => (P : Int) * x).getD i 0 = (P : Int) * O.getD i 0 := by simp [List.getD_eq_getElem?_getD, show i < O.length by omega]
    have e2 : ((l.map fun a => (evV xs l n).getD a 0).map fun x => (s : Int) * x).getD i 0 = (s : Int) * (evV xs l n).getD (l.getD i 0) 0 := by simp [List.getD_eq_getElem?_getD, hi]
    rw [e1, e2, hk i hi]
  have hgc : gcdL (l.map fun a => (evV xs l n).getD a 0) = gcdL (evV xs l n) := by
    refine Nat.dvd_antisymm (gcdL_great fun x hx => ?_) (gcdL_great fun x hx => ?_)
    · obtain ⟨j, hj, rfl⟩ := List.getElem_of_mem hx
      by_cases hjl : j ∈ l
      · exact gcdL_dvd _ _ (List.mem_map.2 ⟨j, hjl, by simp [List.getD_eq_getElem?_getD, hj]⟩)
      · have := evV_out (xs := xs) (n := n) hjl
        rw [List.getD_eq_getElem?_getD, List.getElem?_eq_getElem hj] at this
        have e : (evV xs l n)[j] = 0 := this
        rw [e]; exact Nat.dvd_zero _
    · obtain ⟨a, ha, rfl⟩ := List.mem_map.1 hx
      have hb : a < (evV xs l n).length := by rw [evV_len]; exact hm a ha
      rw [List.getD_eq_getElem?_getD, List.getElem?_eq_getElem hb]
      exact gcdL_dvd _ _ (List.getElem_mem hb)
  rw [hW]
  unfold krL
  refine ints_ext (by simp [lowL]) fun i hi => ?_
  simp only [lowL, List.length_map] at hi
  have hb : l[i] < (evV xs l n).length := by rw [evV_len]; exact hm _ (List.getElem_mem _)
  unfold lowL
  rw [hgc]
  simp [List.getD_eq_getElem?_getD, hi, hb]
end Go.Proofs.Ytajeledbmnndmaa

namespace Go.Proofs.Ytajeledbmnndmaa
open Go.RowKit Go.Sort
set_option maxRecDepth 100000
structure KSt (w : World) (base g m cap : Nat) (v : Value) (r : Nat) (us : List Value) (L : List (List Int)) : Prop where
  ul : us.length = m
  ll : L.length = m
  out : w.ownsRow base 22 1 (.slice (some ⟨g, 0, none⟩) m cap) m us
  row : ∀ k, k < m → Own w base (us.getD k (.slice none 0 0)) (L.getD k [])
  cols : Own w base v (nI (List.range r))
  part : ∀ k, k < m → v.ownBlock = none ∨ v.ownBlock ≠ (us.getD k (.slice none 0 0)).ownBlock
theorem KSt.below {w w' : World} {base g m cap : Nat} {v : Value} {r : Nat} {us : List Value} {L : List (List Int)} (h : KSt w base g m cap v r us L) (hb : Below w.heap.size w w') : KSt w' base g m cap v r us L :=
  ⟨h.ul, h.ll, ownsRow_below h.out hb, fun k hk => (h.row k hk).below hb, h.cols.below hb, h.part⟩
theorem KSt.lt {w : World} {base g m cap : Nat} {v : Value} {r : Nat} {us : List Value} {L : List (List Int)} (h : KSt w base g m cap v r us L) : base ≤ g ∧ g < w.heap.size := World.ownsRow.lt h.out g rfl
theorem KSt.cell {w : World} {base g m cap : Nat} {v : Value} {r : Nat} {us : List Value} {L : List (List Int)} (h : KSt w base g m cap v r us L) {k : Nat} (hk : k < m) :
    w.cell? ⟨g, k, none⟩ = some (us.getD k (.slice none 0 0)) ∧ w.frozen? ⟨g, k, none⟩ = false := by
  have h1 := World.ownsRow.cells h.out (g := g) rfl k (us.getD k (.slice none 0 0)) (by simp [show k < us.length by rw [h.ul]; exact hk])
  rw [Addr.add_lit, Nat.zero_add] at h1
  exact ⟨h1, World.ownsRow.frozenAt h.out k⟩
theorem KSt.rowAt {w : World} {base g m cap : Nat} {v : Value} {r : Nat} {us : List Value} {L : List (List Int)} (h : KSt w base g m cap v r us L) (hN : rowsN L m) {k : Nat} (hk : k < m) :
    ∃ b d, us.getD k (.slice none 0 0) = .slice (some ⟨b, 0, none⟩) m d ∧ w.cell? ⟨g, k, none⟩ = some (.slice (some ⟨b, 0, none⟩) m d) ∧ b < w.heap.size ∧ m ≤ d ∧ d ≤ 9223372036854775807 ∧ (∀ i, i < m → w.cell? ⟨b, i, none⟩ = some (.int .i64 (mE L k i))) ∧ Own w base (.slice (some ⟨b, 0, none⟩) m d) (L.getD k []) := by
  have ho := h.row k hk
  have hc := (h.cell hk).1
  obtain ⟨b, d, e, -, h2, h3, h4, -⟩ := ho.at_ (hN.2 k hk) (by omega)
  rw [e] at ho hc
  have hlt := (ho.lt b rfl).2
  unfold maxLen at h2
  exact ⟨b, d, e, hc, hlt, h3, by omega, h4, ho⟩
theorem KSt.keep {w : World} {base g m cap : Nat} {v : Value} {r : Nat} {us : List Value} {L : List (List Int)} (h : KSt w base g m cap v r us L) {u : Value} {ys : List Int} {b : Nat} (ho : Own w b u ys) (i : Nat) (x : Value) : Own (w.setCell ⟨g, i, none⟩ x) b u ys :=
  ho.kept (World.ownsRow.stored h.out i x).2 (by
    have := types_part ho h.out (by decide)
    simpa [Value.ownBlock] using this)
theorem KSt.set {w : World} {base g m cap : Nat} {v : Value} {r : Nat} {us : List Value} {L : List (List Int)} (h : KSt w base g m cap v r us L) {i : Nat} {u' : Value} {ys : List Int} (ho : Own w base u' ys)
    (hp : v.ownBlock = none ∨ v.ownBlock ≠ u'.ownBlock) : KSt (w.setCell ⟨g, i, none⟩ u') base g m cap v r (us.set i u') (L.set i ys) := by
  have hst := World.ownsRow.stored h.out i u'
  refine ⟨by rw [List.length_set]; exact h.ul, by rw [List.length_set]; exact h.ll, hst.1, fun k hk => ?_, h.keep h.cols i u', fun k hk => ?_⟩
  · by_cases e : i = k
    · subst e
      rw [show (us.set i u').getD i (.slice none 0 0) = u' by simp [List.getD_eq_getElem?_getD, show i < us.length by rw [h.ul]; exact hk], show (L.set i ys).getD i [] = ys by simp [List.getD_eq_getElem?_getD, show i < L.length by rw [h.ll]; exact hk]]
      exact h.keep ho i u'
    · rw [show (us.set i u').getD k (.slice none 0 0) = us.getD k (.slice none 0 0) by simp [List.getD_eq_getElem?_getD, List.getElem?_set_ne e], show (L.set i ys).getD k [] = L.getD k [] by simp [List.getD_eq_getElem?_getD, List.getElem?_set_ne e]]
      exact h.keep (h.row k hk) i u'
  · by_cases e : i = k
    · subst e
      rw [show (us.set i u').getD i (.slice none 0 0) = u' by simp [List.getD_eq_getElem?_getD, show i < us.length by rw [h.ul]; exact hk]]
      exact hp
    · rw [show (us.set i u').getD k (.slice none 0 0) = us.getD k (.slice none 0 0) by simp [List.getD_eq_getElem?_getD, List.getElem?_set_ne e]]
      exact h.part k hk
theorem KSt.swap {w : World} {base g m cap : Nat} {v : Value} {r : Nat} {us : List Value} {L : List (List Int)} (h : KSt w base g m cap v r us L) {c q : Nat} (hc : c < m) (hq : q < m) {uc uq : Value} (ec : us.getD c (.slice none 0 0) = uc) (eq : us.getD q (.slice none 0 0) = uq) :
    KSt ((w.setCell ⟨g, q, none⟩ uc).setCell ⟨g, c, none⟩ uq) base g m cap v r ((us.set q uc).set c uq) (swR L c q) := by
  subst ec eq
  have h1 := h.set (i := q) (h.row c hc) (h.part c hc)
  have h2 := h1.set (i := c) (h.keep (h.row q hq) q (us.getD c (.slice none 0 0))) (h.part q hq)
  exact h2
theorem KSt.app {w w' : World} {base g m cap : Nat} {v v' : Value} {r : Nat} {us : List Value} {L : List (List Int)} (h : KSt w base g m cap v r us L) (hg : w.grownBy w' v.ownBlock) (ho : Own w' base v' (nI (List.range (r + 1))))
    (hv : v'.ownBlock = v.ownBlock ∨ ∃ k, v'.ownBlock = some k ∧ w.heap.size ≤ k) : KSt w' base g m cap v' (r + 1) us L := by
  refine ⟨h.ul, h.ll, World.ownsRow.kept h.out hg (apart_symm' (types_part h.cols h.out (by decide))), fun k hk => (h.row k hk).kept hg (apart_symm' (h.part k hk)), ho, fun k hk => ?_⟩
  rcases hv with e | ⟨z, e, hz⟩
  · rw [e]; exact h.part k hk
  · right
    rw [e]
    intro e2
    have := ((h.row k hk).lt z e2.symm).2
    omega
theorem KSt.start {w : World} {base m : Nat} {v0 : Value} {L : List (List Int)} (h : OwnRows w base v0 L) (hl : L.length = m) (hm : 0 < m) (hb : base ≤ w.heap.size) :
    ∃ g cap us, v0 = .slice (some ⟨g, 0, none⟩) m cap ∧ m ≤ cap ∧ cap ≤ 9223372036854775807 ∧ KSt (w.alloc (.cells #[] 3)) base g m cap (.slice (some ⟨w.heap.size, 0, none⟩) 0 0) 0 us L := by
  subst hl
  obtain ⟨us, hu, ho, hr, hd⟩ := h
  have hb1 := below_alloc1 w (.cells #[] 3)
  rcases ho.2 with ⟨rfl, e⟩ | ⟨g, cap, cur, rfl, h1, h2, h3, h4, _⟩
  · omega
  · unfold maxLen at h4
    refine ⟨g, cap, us, rfl, h3, by omega, hu, rfl, ownsRow_below ho hb1, fun k hk => (hr k hk).below hb1, ?_, fun k hk => ?_⟩
    · have := Own.lit w base [] hb (by simp)
      simpa [nI] using this
    · right
      intro e
      have := ((hr k hk).lt w.heap.size e.symm).2
      omega
/-- the columns' list, as it is read -/
theorem KSt.col {w : World} {base g m cap : Nat} {v : Value} {r : Nat} {us : List Value} {L : List (List Int)} (h : KSt w base g m cap v r us L) : ∃ A d, v = .slice A r d ∧ r ≤ d ∧ d ≤ 9223372036854775807 ∧ (0 < r → ∃ b, A = some ⟨b, 0, none⟩ ∧ b < w.heap.size ∧ ∀ k, k < r → w.cell? ⟨b, k, none⟩ = some (.int .i64 (k : Nat))) := by
  have hlen : (nI (List.range r)).length = r := by rw [nI_len, List.length_range]
  have ho := h.cols
  obtain ⟨A, d, e, h2, h3, -⟩ := ho.form
  rw [hlen] at e h3
  unfold maxLen at h2
  refine ⟨A, d, e, h3, by omega, fun h0 => ?_⟩
  obtain ⟨b, c, e2, -, -, -, h4, -⟩ := ho.at_ hlen h0
  have hlt := (ho.lt b (by rw [e2]; rfl)).2
  rw [e] at e2
  injection e2 with e2 _ _
  refine ⟨b, e2, hlt, fun k hk => ?_⟩
  have := h4 k hk
  rw [nI_getD (by simpa using hk)] at this
  simpa [List.getD_eq_getElem?_getD, hk] using this
end Go.Proofs.Ytajeledbmnndmaa

namespace Go.Proofs.Ytajeledbmnndmaa
open Go.RowKit Go.Sort
set_option maxRecDepth 100000
def tbK (xs : List Int) (l : List Nat) (k : Nat) : List (List Int) := (l.take k).map fun b => l.map fun a => sg xs a b
def rwK (xs : List Int) (l : List Nat) (b j : Nat) : List Int := (l.take j).map fun a => sg xs a b
theorem take_one (l : List Nat) {k : Nat} (hk : k < l.length) : l.take (k + 1) = l.take k ++ [l.getD k 0] := by
  rw [List.take_succ_eq_append_getElem hk, getD_nat hk]
theorem rwK_succ (xs : List Int) (l : List Nat) (b : Nat) {j : Nat} (hj : j < l.length) : rwK xs l b (j + 1) = rwK xs l b j ++ [sg xs (l.getD j 0) b] := by
  unfold rwK
  rw [take_one l hj, List.map_append]; rfl
theorem rwK_len (xs : List Int) (l : List Nat) (b j : Nat) : (rwK xs l b j).length ≤ j := by
  unfold rwK
  rw [List.length_map]; exact List.length_take_le _ _
theorem tbK_succ (xs : List Int) (l : List Nat) {k : Nat} (hk : k < l.length) : tbK xs l (k + 1) = tbK xs l k ++ [rwK xs l (l.getD k 0) l.length] := by
  unfold tbK rwK
  rw [take_one l hk, List.map_append, List.take_length]; rfl
theorem tbK_len (xs : List Int) (l : List Nat) (k : Nat) : (tbK xs l k).length ≤ k := by
  unfold tbK
  rw [List.length_map]; exact List.length_take_le _ _
theorem tbK_all (xs : List Int) (l : List Nat) : tbK xs l l.length = tbL xs l := by
  unfold tbK tbL
  rw [List.take_length]
theorem l02Beats_n (n : Nat) (sl : Value) (xs : List Int) (a b : Nat) (w : World) (h : Rd w sl xs) (hp : tourP n xs) (ha : a < n) (hb : b < n) :
    Calls Try.prog 117 #[.agg #[.int .i64 n, sl], .int .i64 a, .int .i64 b] w fun e w' => e = .returned (.bool (bt xs a b)) ∧ Below w.heap.size w w' := by
  have hl := tour_len hp
  have h8 := hp.1
  refine (l02Beats_any n sl xs a b w h (by omega) (by omega) (by omega) (by omega)).mono fun _ _ ⟨h1, h2⟩ => ⟨?_, h2⟩
  rw [h1]
  obtain ⟨S, e, -⟩ := (tour_bits hp).1 a (by omega)
  exact ret_bool (bitI_bt e)
set_option maxHeartbeats 4000000 in
theorem kernel_any (n : Nat) (sl : Value) (xs : List Int) (hp : tourP n xs) (l : List Nat) (v : Value) (w : World) (h7 : l.length ≤ 7) (hev : l.length % 2 = 1) (hnd : l.Nodup) (hm : ∀ x ∈ l, x < n) (h : Rd w sl xs) (hv : Rd w v (nI l)) :
    Calls Try.prog 69 #[.agg #[.int .i64 n, sl], v] w fun e w' => ∃ v' b, e = .returned (.tuple #[v', .bool b]) ∧ (evG xs l n = true → b = true ∧ Own w' w.heap.size v' (krL xs l n)) ∧ (evG xs l n = false → b = false) ∧ Below w.heap.size w w' := by
  have HR := Lib.hid h
  have HP := Lib.hid hp
  have HA := Lib.hid (tabL_sk hp hnd hm)
  have HND := Lib.hid hnd
  have HM := Lib.hid (fun i (hi : i < l.length) => hm (l.getD i 0) (by rw [getD_nat hi]; exact List.getElem_mem hi))
  have HM0 := Lib.hid hm
  obtain ⟨B, d, rfl, hd1, hd2, hx⟩ := hv
  unfold maxLen at hd2
  rw [nI_len] at hd1 hx ⊢
  obtain ⟨gl, off, rfl, hgl, hc⟩ := hx (by omega)
  have HC := Lib.hid (fun i (hi : i < l.length) => (show w.cell? ⟨gl, off + i, none⟩ = some (.int .i64 (l.getD i 0 : Nat)) by rw [hc i hi, nI_getD hi]))
  have HTS := Lib.hid (fun k (hk : k < l.length) => tbK_succ xs l hk)
  have HRS := Lib.hid (fun b j (hj : j < l.length) => rwK_succ xs l b hj)
  have HTA := Lib.hid (tbK_all xs l)
  obtain ⟨m, hmm⟩ : ∃ m, m = l.length := ⟨_, rfl⟩
  have HML := Lib.hid hmm
  rw [← hmm] at h7 hev hd1 HA HM HC HTS HRS HTA ⊢
  clear h hp hnd hm hx hc hmm
  go_enter Try.func69, Try.ntmps69
  go_wp2_with fail
  have b0 := below_alloc1 w (.cells #[.int .i64 n, sl] 28)
  have x0 := TBox.new w n sl 28
  have o0 := OwnRows.lit0 (w.alloc (.cells #[.int .i64 n, sl] 28)) (w.heap.size + 1) (by simp)
  have b1 := below_alloc1 (w.alloc (.cells #[.int .i64 n, sl] 28)) (.cells #[] 22)
  have HX0 := Lib.hid (x0.below b1)
  have HB0 := Lib.hid (Below.then b0 b1)
  have HO0 := Lib.hid o0
  clear b0 x0 o0 b1
  simp only [World.size_alloc] at HO0
  go_wp2
  go_loopw [7, 35] (fun t7 t35 wr => ∃ (k : Nat) (v : Value), k ≤ m ∧ t35 = .int .i64 k ∧ t7 = v ∧ Hid (OwnRows wr (w.heap.size + 1) v (tbK xs l k)) ∧ Hid (TBox wr w.heap.size n sl) ∧ Hid (Below w.heap.size w wr)) (fun _ t35 _ => m - (intOf t35).toNat)
  case atStart => exact ⟨0, _, by omega, rfl, rfl, HO0, HX0, HB0⟩
  case round =>
    obtain ⟨wo, rfl⟩ : ∃ x, x = wr := ⟨_, rfl⟩
    obtain ⟨k, t7, hk, rfl, rfl, HO, HX, HB⟩ := hrel
    clear HO0 HX0 HB0
    by_cases hlt : k < m
    · as_aux_lemma =>
      have zk := (HB.out.cell (p := ⟨gl, off + k, none⟩) hgl).trans (HC.out k hlt)
      have hbn := HM.out k hlt
      have HTK := Lib.hid (HTS.out k hlt)
      have HTL := Lib.hid (tbK_len xs l k)
      have hszo : w.heap.size + 1 ≤ wo.heap.size := World.block_lt_of_cell? wo _ HX.out.1
      have HSZ := Lib.hid hszo
      have HI0 := Lib.hid (Own.lit wo wo.heap.size [] (Nat.le_refl _) (by simp))
      have HBI0 := Lib.hid (below_alloc1 wo (.cells #[] 3))
      have HRB := Lib.hid (HRS.out (l.getD k 0))
      have HRL := Lib.hid (rwK_len xs l (l.getD k 0))
      have HR0 : Hid (rwK xs l (l.getD k 0) 0 = []) := Lib.hid rfl
      clear hszo
      generalize l.getD k 0 = b at *
      go_wp2
      go_loopw [10, 42] (fun t10 t42 wr => ∃ (j : Nat) (v : Value), j ≤ m ∧ t42 = .int .i64 j ∧ t10 = v ∧ Hid (Own wr wo.heap.size v (rwK xs l b j)) ∧ Hid (Below wo.heap.size wo wr)) (fun _ t42 _ => m - (intOf t42).toNat)
      case atStart => exact ⟨0, _, by omega, rfl, rfl, by rw [HR0.out]; exact HI0, HBI0⟩
      case round =>
        obtain ⟨wi, rfl⟩ : ∃ x, x = wr := ⟨_, rfl⟩
        obtain ⟨j, t10, hj, rfl, rfl, HOi, HBi⟩ := hrel
        clear HI0 HBI0 zk
        by_cases hltj : j < m
        · have HXi := Lib.hid (HX.out.below HBi.out)
          have HBw := Lib.hid (Below.then HB.out HBi.out)
          have zj := (HBw.out.cell (p := ⟨gl, off + j, none⟩) hgl).trans (HC.out j hltj)
          have han := HM.out j hltj
          have HRJ := Lib.hid (HRB.out j hltj)
          have hol := HRL.out j
          generalize l.getD j 0 = a at *
          have y0 := HXi.out.1
          have y1 := HXi.out.2
          have HK1 := Lib.hid (fun W hW => l02Beats_n n sl xs a b W (HR.out.below (Below.then HBw.out hW)) HP.out han hbn)
          have HK2 := Lib.hid (fun W hW => l02Beats_n n sl xs b a W (HR.out.below (Below.then HBw.out hW)) HP.out hbn han)
          have HSG : Hid ((bt xs a b = true → sg xs a b = 1) ∧ (bt xs a b = false → bt xs b a = true → sg xs a b = -1) ∧ (bt xs a b = false → bt xs b a = false → sg xs a b = 0)) := Lib.hid (by
            have hd := (tour_bits HP.out).2.1
            have hln := tour_len HP.out
            have hf := bt_flip HP.out han hbn
            unfold sg
            by_cases e : a = b
            · subst e
              have := hd a (by omega)
              rw [this]; simp
            · have := hf e
              rw [if_neg e]
              rcases q1 : bt xs a b with _ | _ <;> rcases q2 : bt xs b a with _ | _ <;> simp_all)
          have hol2 : (rwK xs l b j).length ≤ 1099511627776 := by omega
          generalize rwK xs l b j = o at *
          generalize sg xs a b = x at *
          clear hol
          rcases q1 : bt xs a b with _ | _
          · go_wp2_with fail
            refine (HK1.out wi (Below.refl _ _)).mono ?_
            rintro e w3 ⟨rfl, hb3⟩
            rw [q1]
            have HX3 := Lib.hid (HXi.out.below hb3)
            have HB3 := Lib.hid (Below.then HBi.out hb3)
            have HO3 := Lib.hid (HOi.out.below hb3)
            have hb3' := Lib.hid hb3
            clear hb3 y0 y1 zj
            have y0 := HX3.out.1
            have y1 := HX3.out.2
            rcases q2 : bt xs b a with _ | _
            · obtain rfl := HSG.out.2.2 q1 q2
              go_wp2_with fail
              refine (HK2.out w3 hb3'.out).mono ?_
              rintro e w4 ⟨rfl, hb4⟩
              rw [q2]
              have HB4 := Lib.hid (Below.then HB3.out hb4)
              have HO4 := Lib.hid (HO3.out.below hb4)
              clear hb4 y0 y1
              have hfo := HO4.out
              have hsz := HB4.out.size
              go_wp2_with (at_builtin; refine wp_append1 w4 rfl (.tmp 46) (.tmp 47) rfl wo.heap.size _ o 0 rfl hfo (by simp [Act.eval]) hol2 hsz ?_; intro v' w7 hown1 hg1; have HO7 := Lib.hid hown1; have HB7 := Lib.hid (below_append HB4.out hg1 hfo (Nat.le_refl _) hsz); clear hown1 hg1)
              go_roundw
              case rel => exact ⟨j + 1, _, by omega, by go_num, rfl, by rw [HRJ.out]; exact HO7, HB7⟩
              case measure => simp [intOf]; omega
            · obtain rfl := HSG.out.2.1 q1 q2
              go_wp2_with fail
              refine (HK2.out w3 hb3'.out).mono ?_
              rintro e w4 ⟨rfl, hb4⟩
              rw [q2]
              have HB4 := Lib.hid (Below.then HB3.out hb4)
              have HO4 := Lib.hid (HO3.out.below hb4)
              clear hb4 y0 y1
              have hfo := HO4.out
              have hsz := HB4.out.size
              go_wp2_with (at_builtin; refine wp_append1 w4 rfl (.tmp 62) (.tmp 63) rfl wo.heap.size _ o (-1) rfl hfo (by simp [Act.eval]) hol2 hsz ?_; intro v' w7 hown1 hg1; have HO7 := Lib.hid hown1; have HB7 := Lib.hid (below_append HB4.out hg1 hfo (Nat.le_refl _) hsz); clear hown1 hg1)
              go_roundw
              case rel => exact ⟨j + 1, _, by omega, by go_num, rfl, by rw [HRJ.out]; exact HO7, HB7⟩
              case measure => simp [intOf]; omega
          · obtain rfl := HSG.out.1 q1
            go_wp2_with fail
            refine (HK1.out wi (Below.refl _ _)).mono ?_
            rintro e w3 ⟨rfl, hb3⟩
            rw [q1]
            have HB3 := Lib.hid (Below.then HBi.out hb3)
            have HO3 := Lib.hid (HOi.out.below hb3)
            clear hb3 y0 y1 zj
            have hfo := HO3.out
            have hsz := HB3.out.size
            go_wp2_with (at_builtin; refine wp_append1 w3 rfl (.tmp 54) (.tmp 55) rfl wo.heap.size _ o 1 rfl hfo (by simp [Act.eval]) hol2 hsz ?_; intro v' w7 hown1 hg1; have HO7 := Lib.hid hown1; have HB7 := Lib.hid (below_append HB3.out hg1 hfo (Nat.le_refl _) hsz); clear hown1 hg1)
            go_roundw
            case rel => exact ⟨j + 1, _, by omega, by go_num, rfl, by rw [HRJ.out]; exact HO7, HB7⟩
            case measure => simp [intOf]; omega
        · obtain rfl : j = m := by omega
          have hlen : (tbK xs l k).length ≤ 1048576 := by have := HTL.out; omega
          have hszo := HSZ.out
          obtain ⟨A2, c2, rfl, -, -, -⟩ := HOi.out.form
          go_wp2_with (at_builtin; refine wp_append1V wi rfl (.tmp 66) (.tmp 68) rfl (w.heap.size + 1) _ (tbK xs l k) _ (rwK xs l b j) wo rfl HO.out HBi.out HOi.out hszo (by simp [Act.eval]) hlen ?_; intro v' w7 ho7 hg7; have HO7 := Lib.hid ho7; have HX7 := Lib.hid ((HX.out.below HBi.out).kept hg7 (fun h => Nat.lt_irrefl _ (HO.out.lt _ h.symm).1)); have HB7 := Lib.hid (below_appendV (Below.then HB.out HBi.out) hg7 (HO.out.below HBi.out) (Nat.le_succ _) (Nat.le_trans hszo HBi.out.size)); clear ho7 hg7)
          go_roundw
          case rel => exact ⟨k + 1, _, by omega, by go_num, rfl, by rw [HTK.out]; exact HO7, HX7, HB7⟩
          case measure => simp [intOf]; omega
    · as_aux_lemma =>
      obtain rfl : m = k := by omega
      have hszo : w.heap.size + 1 ≤ wo.heap.size := World.block_lt_of_cell? wo _ HX.out.1
      have HN0 : Hid (rowsN (tbL xs l) m) := Lib.hid (by rw [HML.out]; exact tbL_N xs l)
      have HG0 : Hid (GsS (tabL xs l) m 0 (mE (tbL xs l))) := Lib.hid (by have := HA.out; rw [HML.out] at this ⊢; exact ks_start this)
      rw [HTA.out] at HO
      obtain ⟨g, cap, us0, rfl, hcap1, hcap2, hks⟩ := KSt.start HO.out HN0.out.1 (show 0 < m by omega) hszo
      have HK0 := Lib.hid hks
      have HB0 := Lib.hid (HB.out.alloc HB.out.size (.cells #[] 3))
      have hgB := Lib.hid hks.lt.1
      clear hks HO HX HTS HRS HTA HC HM HR
      go_wp2
      go_loopw [13, 14, 15, 16] (fun t13 t14 t15 t16 wr => ∃ (c r : Nat) (f : Int) (v : Value) (us : List Value) (L : List (List Int)), c ≤ m ∧ ((c < m ∧ r = c ∧ f = -1) ∨ (c = m ∧ r + 1 = m ∧ f = (r : Int))) ∧ t13 = .int .i64 f ∧ t14 = .int .i64 r ∧ v = t15 ∧ t16 = .int .i64 c ∧ Hid (KSt wr (w.heap.size + 1) g m cap v r us L) ∧ Hid (rowsN L m) ∧ Hid (GsS (tabL xs l) m r (mE L)) ∧ Hid (Below w.heap.size w wr)) (fun _ _ _ t16 _ => m - (intOf t16).toNat)
      case atStart => exact ⟨0, 0, -1, _, us0, tbL xs l, by omega, .inl ⟨by omega, rfl, rfl⟩, rfl, rfl, rfl, rfl, HK0, HN0, HG0, HB0⟩
      case round =>
        obtain ⟨wp, rfl⟩ : ∃ x, x = wr := ⟨_, rfl⟩
        obtain ⟨c, r, f, v, us, L, hc, hcr, rfl, rfl, rfl, rfl, HK, HN, HG, HBp⟩ := hrel
        clear HK0 HN0 HG0 HB0 HB
        by_cases hcm : c < m
        · as_aux_lemma =>
          obtain ⟨rfl, rfl⟩ : r = c ∧ f = -1 := by omega
          clear hcr
          go_wp2
          go_loopw [17] (fun t17 wr => ∃ (q : Nat), r ≤ q ∧ q ≤ m ∧ t17 = .int .i64 q ∧ Hid (∀ j, r ≤ j → j < q → mE L j r = 0) ∧ Hid (wr = wp)) (fun t17 _ => m - (intOf t17).toNat)
          case atStart => exact ⟨r, Nat.le_refl _, by omega, rfl, Lib.hid (fun j h1 h2 => absurd h2 (by omega)), Lib.hid rfl⟩
          case round =>
            obtain ⟨wi, rfl⟩ : ∃ x, x = wr := ⟨_, rfl⟩
            obtain ⟨q, hq1, hq2, rfl, HZ, HW⟩ := hrel
            obtain rfl := HW.out
            clear HW
            by_cases hqm : q < m
            · obtain ⟨bq, dq, eq, zq, hbq, hdq1, hdq2, hcq, hoq⟩ := HK.out.rowAt HN.out hqm
              have zqc := hcq r hcm
              by_cases hz : mE L q r = 0
              · rw [hz] at zqc
                have HZ1 : Hid (∀ j, r ≤ j → j < q + 1 → mE L j r = 0) := Lib.hid fun j h1 h2 => by
                  by_cases e : j = q
                  · subst e; exact hz
                  · exact HZ.out j h1 (by omega)
                have HOQ := Lib.hid hoq
                clear hcq hoq eq hz HOQ
                go_wp2
                go_roundw
                case rel => exact ⟨q + 1, by omega, by omega, by go_num, HZ1, Lib.hid (by trivial)⟩
                case measure => simp [intOf]; omega
              · as_aux_lemma =>
                have hne : ¬ ((q : Int) = (m : Int)) := by omega
                have hrm : r + 1 < m := by
                  refine Nat.lt_of_not_le fun h => ?_
                  obtain rfl : q = r := by omega
                  have h1 := HG.out
                  rw [show q = m - 1 by omega] at h1 hz
                  exact hz (gs_end HA.out hev h7 h1).1
                obtain ⟨br, dr, er, zr, hbr, hdr1, hdr2, hcr, hor⟩ := HK.out.rowAt HN.out hcm
                have fq := (HK.out.cell hqm).2
                have hks1 := HK.out.set (i := q) (HK.out.row r hcm) (HK.out.part r hcm)
                have zr1 := (hks1.cell hcm).1
                have fr1 := (hks1.cell hcm).2
                rw [er] at zr1 fr1
                have HS := Lib.hid (HK.out.swap hcm hqm er eq)
                have HSN := Lib.hid (swR_N HN.out hcm hqm)
                have HST := Lib.hid (ks_step HA.out HN.out HG.out hrm h7 hq1 hqm hz HZ.out)
                have HSR : Hid ((swR L r q).getD r [] = L.getD q []) := Lib.hid (by rw [swR_at (by rw [HN.out.1]; exact hcm), if_pos rfl])
                have HSB : Hid (∀ k, k < m → ∀ j, (((swR L r q).getD k []).getD j 0).natAbs ≤ 8388608) := Lib.hid fun k hk j => by
                  have key : ∀ s, s < m → ((L.getD s []).getD j 0).natAbs ≤ 8388608 := fun s hs => by
                    by_cases hj : j < m
                    · have h1 := HG.out.bd s j hs hj
                      have h2 : bndG r ≤ 8388608 := by
                        have : r = 0 ∨ r = 1 ∨ r = 2 ∨ r = 3 ∨ r = 4 ∨ r = 5 := by omega
                        rcases this with rfl | rfl | rfl | rfl | rfl | rfl <;> decide
                      exact Nat.le_trans h1 h2
                    · have : (L.getD s []).getD j 0 = 0 := by
                        have := HN.out.2 s hs
                        rw [List.getD_eq_getElem?_getD, List.getElem?_eq_none (by omega)]; rfl
                      rw [this]; decide
                  rw [swR_at (by rw [HN.out.1]; exact hk)]
                  split
                  · exact key q hqm
                  · split
                    · exact key r hcm
                    · exact key k hk
                have HUS : Hid (((us.set q (.slice (some ⟨br, 0, none⟩) m dr)).set r (.slice (some ⟨bq, 0, none⟩) m dq)).getD r (.slice none 0 0) = .slice (some ⟨bq, 0, none⟩) m dq) := Lib.hid (by
                  rw [List.getD_eq_getElem?_getD, List.getElem?_set_self (by rw [List.length_set, HK.out.ul]; exact hcm)]; rfl)
                have HBS := Lib.hid ((HBp.out.setCell (p := ⟨g, q, none⟩) (Nat.le_of_succ_le hgB.out) (.slice (some ⟨br, 0, none⟩) m dr)).setCell (p := ⟨g, r, none⟩) (Nat.le_of_succ_le hgB.out) (.slice (some ⟨bq, 0, none⟩) m dq))
                generalize (us.set q (.slice (some ⟨br, 0, none⟩) m dr)).set r (.slice (some ⟨bq, 0, none⟩) m dq) = us1 at *
                generalize (us.set q (.slice (some ⟨br, 0, none⟩) m dr)).getD r (.slice none 0 0) = z1 at *
                clear hks1 hor hoq hcr hcq er eq HN HG HZ HK hq1
                generalize mE L q r = xq at zqc hz
                have hzb : (xq == 0) = false := by simpa using hz
                have hqb : ((q : Int) == (m : Int)) = false := by simpa using hne
                go_wp2
                go_loopw [116] (fun t116 wr => ∃ (k : Nat) (us2 : List Value), k ≤ m ∧ t116 = .int .i64 k ∧ Hid (KSt wr (w.heap.size + 1) g m cap v r us2 (rdR (swR L r q) r k)) ∧ Hid (us2.getD r (.slice none 0 0) = .slice (some ⟨bq, 0, none⟩) m dq) ∧ Hid (Below w.heap.size w wr)) (fun t116 _ => m - (intOf t116).toNat)
                case atStart => exact ⟨0, us1, by omega, rfl, by rw [rdR_zero]; exact HS, HUS, HBS⟩
                case round =>
                  obtain ⟨wi, rfl⟩ : ∃ x, x = wr := ⟨_, rfl⟩
                  obtain ⟨k, us2, hk, rfl, HKi, HUi, HBi⟩ := hrel
                  clear HS HUS HBS zq zr fq zr1 fr1 zqc hz
                  by_cases hkm : k < m
                  · as_aux_lemma =>
                    have HRN := Lib.hid (rdR_N (c := r) HSN.out k)
                    obtain ⟨bk, dk, ek, zk, hbk, hdk1, hdk2, hck, hok⟩ := HKi.out.rowAt HRN.out hkm
                    have hkS : k < (swR L r q).length := by rw [HSN.out.1]; exact hkm
                    have hrS : r < (swR L r q).length := by rw [HSN.out.1]; exact hcm
                    have zkr := hck r hcm
                    have hmk : mE (rdR (swR L r q) r k) k r = mE (swR L r q) k r := by unfold mE; rw [rdR_own hkS]
                    rw [hmk] at zkr
                    rw [rdR_own hkS] at hok
                    by_cases hkr : k = r
                    · have HKP : Hid (rdR (swR L r q) r (k + 1) = rdR (swR L r q) r k) := Lib.hid (rdR_keep (fun h => h.1 hkr))
                      have hki : (k : Int) = (r : Int) := by omega
                      clear hck hok ek hmk zkr
                      go_wp2
                      go_roundw
                      case rel => exact ⟨k + 1, us2, by omega, by go_num, by rw [HKP.out]; exact HKi, HUi, HBi⟩
                      case measure => simp [intOf]; omega
                    · have hki : ((k : Int) != (r : Int)) = true := by simp; omega
                      by_cases hz : mE (swR L r q) k r = 0
                      · have HKP : Hid (rdR (swR L r q) r (k + 1) = rdR (swR L r q) r k) := Lib.hid (rdR_keep (fun h => h.2 hz))
                        rw [hz] at zkr
                        clear hck hok ek hmk hz
                        go_wp2
                        go_roundw
                        case rel => exact ⟨k + 1, us2, by omega, by go_num, by rw [HKP.out]; exact HKi, HUi, HBi⟩
                        case measure => simp [intOf]; omega
                      · have HKP : Hid (rdR (swR L r q) r (k + 1) = (rdR (swR L r q) r k).set k (redL ((swR L r q).getD k []) ((swR L r q).getD r []) r)) := Lib.hid (rdR_red hkS hkr hz)
                        have hor := HKi.out.row r hcm
                        rw [HUi.out, rdR_piv hrS] at hor
                        have HRD := Lib.hid (reduce_any bk 0 dk bq 0 dq _ _ m r wi (HSN.out.2 k hkm) (HSN.out.2 r hcm) hcm (by omega) hok.rd hor.rd (HSB.out k hkm) (HSB.out r hcm))
                        generalize redL ((swR L r q).getD k []) ((swR L r q).getD r []) r = RL at *
                        generalize mE (swR L r q) k r = x at *
                        have hzb : (x != 0) = true := by simpa using hz
                        clear hck hok ek hmk hor
                        go_wp2_with fail
                        refine HRD.out.mono ?_
                        rintro e w6 ⟨A6, d6, rfl, ho6, hb6⟩
                        have HK6 := Lib.hid (HKi.out.below hb6)
                        have HB6 := Lib.hid (Below.then HBi.out hb6)
                        have hsz := HKi.out.lt.2
                        have HP6 : Hid (v.ownBlock = none ∨ v.ownBlock ≠ (Value.slice A6 m d6).ownBlock) := Lib.hid (HKi.out.cols.apart ho6 (Nat.le_refl _))
                        have y6 := (HK6.out.cell hkm).1
                        have f6 := (HK6.out.cell hkm).2
                        have HK7 := Lib.hid (HK6.out.set (i := k) (ho6.mono (by have := hgB.out; omega)) HP6.out)
                        have HB7 := Lib.hid (HB6.out.setCell (p := ⟨g, k, none⟩) (Nat.le_of_succ_le hgB.out) (.slice A6 m d6))
                        have HU7 : Hid ((us2.set k (.slice A6 m d6)).getD r (.slice none 0 0) = .slice (some ⟨bq, 0, none⟩) m dq) := Lib.hid (by
                          rw [List.getD_eq_getElem?_getD, List.getElem?_set_ne hkr, ← List.getD_eq_getElem?_getD]; exact HUi.out)
                        clear ho6 hb6 HRD HKi HBi HUi zkr zk hz
                        generalize us2.getD k (.slice none 0 0) = z6 at *
                        go_wp2
                        go_roundw
                        case rel => exact ⟨k + 1, _, by omega, by go_num, by rw [HKP.out]; exact HK7, HU7, HB7⟩
                        case measure => simp [intOf]; omega
                  · as_aux_lemma =>
                    obtain rfl : m = k := by omega
                    have hol : (nI (List.range r)).length ≤ 1099511627776 := by rw [nI_len, List.length_range]; omega
                    have hbase : w.heap.size + 1 ≤ wi.heap.size := by have := HKi.out.lt; omega
                    have hfo := HKi.out.cols
                    have HNI : Hid (nI (List.range (r + 1)) = nI (List.range r) ++ [(r : Int)]) := Lib.hid (by rw [List.range_succ, nI_append]; rfl)
                    have HRN := Lib.hid (rdR_N (c := r) HSN.out m)
                    go_wp2_with (at_builtin; refine wp_append1at2 wi rfl (.tmp 143) (.tmp 145) rfl (w.heap.size + 1) _ (nI (List.range r)) (r : Int) rfl hfo (by simp [Act.eval]) hol hbase ?_; intro v' w7 ho7 hg7 hat7; have HK7 := Lib.hid (HKi.out.app hg7 (by rw [HNI.out]; exact ho7) hat7); have HB7 := Lib.hid (below_append HBi.out hg7 hfo (Nat.le_succ _) hbase); clear ho7 hg7 hat7)
                    go_roundw
                    case rel => exact ⟨r + 1, r + 1, -1, v', us2, _, by omega, .inl ⟨hrm, rfl, rfl⟩, rfl, by go_num, rfl, by go_num, HK7, HRN, HST, HB7⟩
                    case measure => simp [intOf]; omega
            · as_aux_lemma =>
              obtain rfl : m = q := by omega
              have hr1 : r + 1 = m := by
                refine Nat.le_antisymm (by omega) (Nat.le_of_not_lt fun h => ?_)
                obtain ⟨p, h1, h2, h3⟩ := gs_piv HA.out HG.out h
                exact h3 (HZ.out p h1 h2)
              have hr2 : r + 1 ≤ m := by omega
              clear HZ hq1 hq2
              go_wp2
              go_roundw
              case rel => exact ⟨r + 1, r, (r : Int), v, us, L, hr2, .inr ⟨hr1, hr1, rfl⟩, rfl, rfl, rfl, by go_num, HK, HN, HG, HBp⟩
              case measure => simp [intOf]; omega
        · as_aux_lemma =>
          obtain rfl : m = c := by omega
          obtain ⟨hr1, rfl⟩ : r + 1 = m ∧ f = (r : Int) := by omega
          have hr2 : m - 1 = r := by omega
          have hrm : r < m := by omega
          have HKF : Hid (KerF (tabL xs l) m L) := Lib.hid (ker_f HA.out hev h7 (by rw [hr2]; exact HG.out))
          obtain ⟨A, dc, rfl, hdc1, hdc2, hcol⟩ := HK.out.col
          have HCL := Lib.hid hcol
          have HPV : Hid (∀ k, k < r → mE L k k ≠ 0 ∧ (mE L k k).natAbs ≤ 15 ∧ (mE L k r).natAbs ≤ 15) := Lib.hid (by have := HKF.out.piv; rw [hr2] at this; exact this)
          have HSC : Hid (∀ k, k ≤ r → 0 < lcN (pvD L) k ∧ lcN (pvD L) k ≤ 15) := Lib.hid (by have := HKF.out.sc; rw [hr2] at this; exact this)
          have HLS : Hid (∀ k, lcN (pvD L) (k + 1) = lcN (pvD L) k / Nat.gcd (lcN (pvD L) k) (pvD L k) * pvD L k) := Lib.hid fun _ => rfl
          have hrn : ¬ (r : Int) < 0 := by omega
          have HR2 := Lib.hid hr2
          clear hcr hcol HG hgB hr2
          go_wp2
          go_loopw [20, 153] (fun t20 t153 wr => ∃ (k : Nat), k ≤ r ∧ t153 = .int .i64 k ∧ t20 = .int .i64 (lcN (pvD L) k : Nat) ∧ Hid (Below wp.heap.size wp wr)) (fun _ t153 _ => r - (intOf t153).toNat)
          case atStart => exact ⟨0, by omega, rfl, rfl, Lib.hid (Below.refl _ _)⟩
          case round =>
            obtain ⟨wi, rfl⟩ : ∃ x, x = wr := ⟨_, rfl⟩
            obtain ⟨k, hk, rfl, rfl, HBi⟩ := hrel
            by_cases hkr : k < r
            · as_aux_lemma =>
              obtain ⟨bc, rfl, hbc, hcc⟩ := HCL.out (by omega)
              have zc := cell_regrown ((HBi.out.cell (p := ⟨bc, k, none⟩) hbc).trans (hcc k hkr))
              obtain ⟨bk, dk, ek, zk, hbk, hdk1, hdk2, hck, hok⟩ := HK.out.rowAt HN.out (show k < m by omega)
              have zk1 := cell_regrown ((HBi.out.cell (p := ⟨g, k, none⟩) HK.out.lt.2).trans zk)
              have zk2 := cell_regrown ((HBi.out.cell (p := ⟨bk, k, none⟩) hbk).trans (hck k (by omega)))
              have hx := HPV.out k hkr
              have hs := HSC.out k hk
              have hs1 := HSC.out (k + 1) hkr
              have HL1 := Lib.hid (HLS.out k)
              have HPD : Hid (pvD L k = (mE L k k).natAbs) := Lib.hid rfl
              clear hcc ek zk hck hok
              obtain ⟨s1, hs1e⟩ : ∃ s1, s1 = lcN (pvD L) (k + 1) := ⟨_, rfl⟩
              have HS1 := Lib.hid hs1e
              rw [← hs1e] at HL1 hs1
              clear hs1e
              generalize lcN (pvD L) k = s at *
              generalize pvD L k = D at *
              generalize mE L k k = x at *
              have hD : D = x.natAbs := HPD.out
              go_wp2_with fail
              refine wp_region_below (by kernel_rfl) (by kernel_rfl) ?_
              repeat (go_big_quiet_step (first | fail))
              refine wpQuiet_nil ?_
              intro wq hbq0
              have HBq := Lib.hid (Below.then HBi.out hbq0)
              have hmax : max x (-x) = (D : Int) := by omega
              rw [hmax]
              have hGp : 1 ≤ Nat.gcd s D := Nat.gcd_pos_of_pos_left _ hs.1
              have LG := Lib.hid (fun W => l10Gcd_any s D W (by omega) (by omega))
              generalize Nat.gcd s D = G at *
              have hGz : ((G : Int) != 0) = true := by simp; omega
              have hGz2 : ¬ (G : Int) = 0 := by omega
              have e1 : (s : Int) / (G : Int) = ((s / G : Nat) : Int) := (Int.natCast_ediv s G).symm
              have hQ : s / G ≤ s := Nat.div_le_self _ _
              generalize s / G = Q at *
              have uw : wrap64 ((s : Int) / (G : Int)) = (Q : Int) := by rw [e1]; exact IntWalk.wrap64_in _ (by omega)
              have e2 : (Q : Int) * (D : Int) = (s1 : Int) := by rw [HL1.out]; push_cast; rfl
              have um : wrap64 ((Q : Int) * (D : Int)) = (s1 : Int) := by rw [e2]; exact IntWalk.wrap64_in _ (by omega)
              clear e2
              clear hbq0 zc zk1 zk2 hmax hx hD HPD hs hs1 hQ e1 hGp
              go_wp2_with fail
              refine (LG.out _).mono ?_
              rintro e wz ⟨rfl, rfl⟩
              go_wp2
              go_roundw
              case rel => exact ⟨k + 1, hkr, by go_num, by rw [← HS1.out, um], HBq⟩
              case measure => simp [intOf]; omega
            · as_aux_lemma =>
              obtain rfl : r = k := by omega
              have hsc := HSC.out r (Nat.le_refl _)
              have HOZ : Hid ((List.replicate m (0 : Int)).set r (lcN (pvD L) r : Nat) = ouL L m (lcN (pvD L) r : Nat) 0) := Lib.hid (by have := ouL_zero L (n := m) (lcN (pvD L) r : Nat) (by omega); rw [HR2.out] at this; exact this)
              have HOS : Hid (∀ k, k < r → (ouL L m (lcN (pvD L) r : Nat) k).set k (ouE L m (lcN (pvD L) r : Nat) k) = ouL L m (lcN (pvD L) r : Nat) (k + 1)) := Lib.hid fun k hk => ouL_succ L _ (by rw [HR2.out]; exact hk)
              have HOE : Hid (∀ k, ouE L m (lcN (pvD L) r : Nat) k = Int.tdiv (-(mE L k r) * (lcN (pvD L) r : Nat)) (mE L k k)) := Lib.hid fun k => by unfold ouE; rw [HR2.out]
              have HOL : Hid (∀ k, (ouL L m (lcN (pvD L) r : Nat) k).length = m) := Lib.hid fun k => ouL_len _ _ _ _
              have HOB : Hid (∀ i, ((ouL L m (lcN (pvD L) r : Nat) r).getD i 0).natAbs ≤ 225) := Lib.hid fun i => by
                by_cases hi : i < m
                · rw [ouL_at hi]
                  split
                  · omega
                  · split
                    · rename_i h1 h2
                      rw [HOE.out]
                      have h3 := HPV.out i h2
                      have h4 := Int.natAbs_tdiv_le_natAbs (-(mE L i r) * (lcN (pvD L) r : Nat)) (mE L i i)
                      have h5 : (-(mE L i r) * (lcN (pvD L) r : Nat)).natAbs ≤ 15 * 15 := by
                        rw [Int.natAbs_mul, Int.natAbs_neg]
                        exact Nat.mul_le_mul h3.2.2 (by omega)
                      omega
                    · decide
                · rw [List.getD_eq_getElem?_getD, List.getElem?_eq_none (by rw [HOL.out]; omega)]; decide
              have HANS : Hid ((evG xs l n = true ↔ ∀ i, i < m → 0 < (ouL L m (lcN (pvD L) r : Nat) r).getD i 0) ∧ (evG xs l n = true → lowL (ouL L m (lcN (pvD L) r : Nat) r) = krL xs l n)) := Lib.hid (by
                have h1 := HKF.out
                have h2 := HR2.out
                have h3 := HML.out
                subst h3
                exact ker_ans HP.out hev h7 HND.out HM0.out h1 (by rw [h2]))
              clear HSC HLS HKF HA HML HND HM0 HR2
              generalize lcN (pvD L) r = sc at *
              obtain ⟨i0, hi, hz0, hz1, hz2⟩ := info_parts i64_info
              go_wp2_with (at_make; refine wpList_make_full _ rfl _ _ 22 rfl wi.heap.size 3 i0 (.int .i64 0) 1 Try.underlying22 hi hz0 hz1 _ _ _ _ m rfl rfl rfl rfl (by rw [hz2]; omega) (by unfold maxLen; omega) (Nat.le_refl _) ?_; intro w1 hown hg1; have HO1 : Hid (Own w1 wi.heap.size (.slice (some ⟨wi.heap.size, 0, none⟩) m m) (List.replicate m 0)) := Lib.hid (by rw [ints_made'] at hown; unfold Own; rw [List.length_replicate]; exact hown); have HB1 := Lib.hid (Below.then HBi.out ((Below.refl wi.heap.size wi).grown hg1 (Nat.le_refl _) (by simp))); have zr := (HO1.out.at1 (by simp) (Nat.lt_of_le_of_lt (Nat.zero_le _) hrm)).1 r hrm; have fr := (HO1.out.at1 (by simp) (Nat.lt_of_le_of_lt (Nat.zero_le _) hrm)).2 r; clear hown hg1)
              have HO2 := Lib.hid (HO1.out.set_ (by simp) r (sc : Int)).1
              have HB2 := Lib.hid (HB1.out.setCell (p := ⟨wi.heap.size, r, none⟩) HBi.out.size (.int .i64 (sc : Int)))
              rw [HOZ.out] at HO2
              have HGO := Lib.hid (rfl : wi.heap.size = wi.heap.size)
              have hgo1 := HBi.out.size
              have HO2 := Lib.hid (HO2.out.mono hgo1)
              clear HO1 HB1 zr fr HBi HGO HOZ
              generalize wi.heap.size = go at *
              have hm1 : 0 < m := by omega
              go_loopw [194] (fun t194 wr => ∃ (k : Nat), k ≤ r ∧ t194 = .int .i64 k ∧ Hid (Own wr wp.heap.size (.slice (some ⟨go, 0, none⟩) m m) (ouL L m sc k)) ∧ Hid (Below wp.heap.size wp wr)) (fun t194 _ => r - (intOf t194).toNat)
              case atStart => exact ⟨0, by omega, rfl, HO2, HB2⟩
              case round =>
                obtain ⟨wj, rfl⟩ : ∃ x, x = wr := ⟨_, rfl⟩
                obtain ⟨k, hk, rfl, HOj, HBj⟩ := hrel
                clear HO2 HB2
                by_cases hkr : k < r
                · as_aux_lemma =>
                  obtain ⟨bc, rfl, hbc, hcc⟩ := HCL.out (by omega)
                  have zc := (HBj.out.cell (p := ⟨bc, k, none⟩) hbc).trans (hcc k hkr)
                  obtain ⟨bk, dk, ek, zk, hbk, hdk1, hdk2, hck, hok⟩ := HK.out.rowAt HN.out (show k < m by omega)
                  have zk1 := cell_regrown ((HBj.out.cell (p := ⟨g, k, none⟩) HK.out.lt.2).trans zk)
                  have zk2 := cell_regrown ((HBj.out.cell (p := ⟨bk, k, none⟩) hbk).trans (hck k (by omega)))
                  have zk3 := cell_regrown ((HBj.out.cell (p := ⟨bk, r, none⟩) hbk).trans (hck r hrm))
                  have HOk := Lib.hid (HOS.out k hkr)
                  have hE := HOE.out k
                  have hx := HPV.out k hkr
                  have HLk := Lib.hid (HOL.out k)
                  have hkm : k < m := by omega
                  have hcell := HOj.out.at1 HLk.out hm1
                  have z9 := hcell.1 k hkm
                  have f9 := hcell.2 k
                  clear hcc ek zk hck hok hcell
                  generalize ouE L m sc k = E at *
                  generalize mE L k k = x at *
                  generalize mE L k r = y at *
                  have h5 : (-y * (sc : Int)).natAbs ≤ 15 * 15 := by
                    rw [Int.natAbs_mul, Int.natAbs_neg]
                    exact Nat.mul_le_mul hx.2.2 (by omega)
                  have h4 := Int.natAbs_tdiv_le_natAbs (-y * (sc : Int)) x
                  rw [← hE] at h4
                  have un : IntKind.i64.wrap (-y) = -y := IntWalk.i64_in _ (by omega)
                  have um : IntKind.i64.wrap (-y * (sc : Int)) = -y * (sc : Int) := IntWalk.i64_in _ (by omega)
                  have uq : IntKind.i64.wrap (Int.tdiv (-y * (sc : Int)) x) = E := by rw [← hE]; exact IntWalk.i64_in _ (by omega)
                  have hxz : (x != 0) = true := by simpa using hx.1
                  have hxz2 := hx.1
                  clear h5 h4 hE hx
                  go_wp2_with fail
                  refine wp_region_below_tail 20 (by kernel_rfl) (by kernel_rfl) ?_
                  simp only [List.take_succ_cons, List.take_zero, List.drop_succ_cons, List.drop_zero]
                  repeat (go_big_quiet_step (first | (with_reducible fail)))
                  refine wpQuiet_nil ?_
                  intro wq hbq0
                  have hbq := Lib.hid hbq0
                  clear hbq0
                  have HBq := Lib.hid (Below.then HBj.out hbq.out)
                  have HOq := Lib.hid (HOj.out.below hbq.out)
                  have z10 := (HOq.out.at1 HLk.out hm1).1 k hkm
                  have f10 := (HOq.out.at1 HLk.out hm1).2 k
                  have HO11 := Lib.hid (HOq.out.set_ HLk.out k E).1
                  have HB11 := Lib.hid (HBq.out.setCell (p := ⟨go, k, none⟩) hgo1 (.int .i64 E))
                  rw [HOk.out] at HO11
                  clear zc zk1 zk2 zk3 z9 f9 hbq HOq HOj
                  go_wp2
                  go_roundw
                  case rel => exact ⟨k + 1, hkr, by go_num, HO11, HB11⟩
                  case measure => simp [intOf]; omega
                · as_aux_lemma =>
                  obtain rfl : r = k := by omega
                  have HLO := Lib.hid (HOL.out r)
                  clear HOS HOE HOL HPV HCL HK HN hdc2 hcap2
                  generalize ouL L m sc r = O at *
                  go_wp2
                  go_loopw [26, 223] (fun t26 t223 wr => ∃ (k G : Nat), k ≤ m ∧ t223 = .int .i64 k ∧ t26 = .int .i64 G ∧ Hid (G = gcdL (O.take k)) ∧ Hid (∀ i, i < k → 0 < O.getD i 0) ∧ Hid (wr = wj)) (fun _ t223 _ => m - (intOf t223).toNat)
                  case atStart => exact ⟨0, 0, by omega, rfl, rfl, Lib.hid rfl, Lib.hid (fun i hi => absurd hi (by omega)), Lib.hid rfl⟩
                  case round =>
                    obtain ⟨wu, rfl⟩ : ∃ x, x = wr := ⟨_, rfl⟩
                    obtain ⟨k, G, hk, rfl, rfl, HG, HPO, HW⟩ := hrel
                    have HOu := Lib.hid (show Own wu wp.heap.size (.slice (some ⟨go, 0, none⟩) m m) O by rw [HW.out]; exact HOj.out)
                    have HBu := Lib.hid (show Below wp.heap.size wp wu by rw [HW.out]; exact HBj.out)
                    by_cases hkm : k < m
                    · as_aux_lemma =>
                      have zk := (HOu.out.at1 HLO.out hm1).1 k hkm
                      have hb := HOB.out k
                      have hGb : G ≤ 225 := by
                        rw [HG.out]
                        refine gcdL_le _ fun x hx => ?_
                        obtain ⟨i, hi, rfl⟩ := List.getElem_of_mem (List.mem_of_mem_take hx)
                        have := HOB.out i
                        rw [List.getD_eq_getElem?_getD, List.getElem?_eq_getElem hi] at this
                        have h : (O[i]).natAbs ≤ 225 := this
                        omega
                      have hGS : gcdL (O.take (k + 1)) = Nat.gcd G (O.getD k 0).toNat := by
                        rw [take_snoc (by rw [HLO.out]; exact hkm), gcdL_snoc, ← HG.out, ← List.getD_eq_getElem?_getD]
                      have HEX : Hid (¬ 0 < O.getD k 0 → evG xs l n = false) := Lib.hid fun h => by
                        rcases q : evG xs l n with _ | _
                        · rfl
                        · exact absurd (HANS.out.1.1 q k hkm) h
                      have HPN : Hid (0 < O.getD k 0 → ∀ i, i < k + 1 → 0 < O.getD i 0) := Lib.hid fun h i hi => by
                        by_cases e : i = k
                        · subst e; exact h
                        · exact HPO.out i (by omega)
                      clear HPO
                      have HGS := Lib.hid hGS
                      clear hGS
                      generalize O.getD k 0 = x at *
                      by_cases hx : 0 < x
                      · obtain ⟨y, rfl⟩ : ∃ y : Nat, x = (y : Int) := ⟨x.toNat, by omega⟩
                        have HGS : Hid (gcdL (O.take (k + 1)) = Nat.gcd G y) := Lib.hid HGS.out
                        have HPP := Lib.hid (HPN.out hx)
                        have LG := Lib.hid (fun W => l10Gcd_any G y W (by omega) (by omega))
                        have hx1 : ¬ (y : Int) ≤ 0 := by omega
                        have hx2 : decide ((y : Int) ≤ 0) = false := by simp; omega
                        have hx3 : ¬ y = 0 := by omega
                        clear hb HEX HPN
                        go_wp2_with fail
                        refine (LG.out _).mono ?_
                        rintro e wz ⟨rfl, rfl⟩
                        go_wp2
                        go_roundw
                        case rel => exact ⟨k + 1, Nat.gcd G y, by omega, by go_num, rfl, Lib.hid HGS.out.symm, HPP, HW⟩
                        case measure => simp [intOf]; omega
                      · have hx1 : x ≤ 0 := by omega
                        have hx2 : decide (x ≤ 0) = true := by simp; omega
                        have HEE := Lib.hid (HEX.out hx)
                        clear hb HEX HPN hx
                        go_wp2
                        go_ret2
                        exact ⟨_, _, rfl, fun h => absurd h (by rw [HEE.out]; decide), fun _ => rfl, Below.then HBp.out HBu.out⟩
                    · as_aux_lemma =>
                      obtain rfl : m = k := by omega
                      have hT : O.take m = O := List.take_of_length_le (by rw [HLO.out]; exact Nat.le_refl _)
                      rw [hT] at HG
                      have HEV := Lib.hid (HANS.out.1.2 HPO.out)
                      have HLW := Lib.hid (HANS.out.2 HEV.out)
                      have hG1 : 1 ≤ G := by
                        have h1 := HPO.out 0 hm1
                        rw [HG.out]
                        refine gcdL_pos ⟨O[0]'(by rw [HLO.out]; exact hm1), List.getElem_mem _, ?_⟩
                        rw [List.getD_eq_getElem?_getD, List.getElem?_eq_getElem (by rw [HLO.out]; exact hm1)] at h1
                        exact h1
                      have HLD : Hid (lowL O = O.map fun x => x / (G : Int)) := Lib.hid (by unfold lowL; rw [← HG.out])
                      have hGz : ((G : Int) != 0) = true := by simp; omega
                      have hGz2 : ¬ (G : Int) = 0 := by omega
                      have HSZ := Lib.hid HBp.out.size
                      clear hT HG HANS
                      go_wp2
                      go_loopw [235] (fun t235 wr => ∃ (j : Nat), j ≤ m ∧ t235 = .int .i64 j ∧ Hid (Own wr wp.heap.size (.slice (some ⟨go, 0, none⟩) m m) ((O.map fun x => x / (G : Int)).take j ++ O.drop j)) ∧ Hid (Below wp.heap.size wp wr)) (fun t235 _ => m - (intOf t235).toNat)
                      case atStart => exact ⟨0, by omega, rfl, by simpa using HOu, HBu⟩
                      case round =>
                        obtain ⟨wi2, rfl⟩ : ∃ x, x = wr := ⟨_, rfl⟩
                        obtain ⟨j, hj, rfl, HOi, HBi⟩ := hrel
                        clear HOu HBu HOj HBj HW
                        have HLi : Hid (((O.map fun x => x / (G : Int)).take j ++ O.drop j).length = m) := Lib.hid (by
                          rw [List.length_append, List.length_take, List.length_map, List.length_drop, HLO.out]; omega)
                        by_cases hltj : j < m
                        · as_aux_lemma =>
                          obtain ⟨hc1, hc2⟩ := HOi.out.at1 HLi.out hm1
                          have z0 := hc1 j hltj
                          have f0 := hc2 j
                          have hg0 : ((O.map fun x => x / (G : Int)).take j ++ O.drop j).getD j 0 = O.getD j 0 := by
                            rw [List.getD_eq_getElem?_getD, List.getElem?_append_right (by rw [List.length_take, List.length_map, HLO.out]; omega), List.length_take, List.length_map, HLO.out, Nat.min_eq_left (by omega), Nat.sub_self, List.getElem?_drop, Nat.add_zero, ← List.getD_eq_getElem?_getD]
                          rw [hg0] at z0
                          have hs := HOi.out.set_ HLi.out j (O.getD j 0 / (G : Int))
                          rw [set_map_take (fun x => x / (G : Int)) O j (by rw [HLO.out]; exact hltj)] at hs
                          have HSO := Lib.hid hs.1
                          have HSB := Lib.hid (HBi.out.setCell (p := ⟨go, j, none⟩) hgo1 (.int .i64 (O.getD j 0 / (G : Int))))
                          have hb := HOB.out j
                          have hp := HPO.out j hltj
                          clear hs hg0 hc1 hc2
                          generalize O.getD j 0 = x at *
                          obtain ⟨y, rfl⟩ : ∃ y : Nat, x = (y : Int) := ⟨x.toNat, by omega⟩
                          have e1 : (y : Int) / (G : Int) = ((y / G : Nat) : Int) := (Int.natCast_ediv y G).symm
                          have hQ : y / G ≤ y := Nat.div_le_self _ _
                          have uw : wrap64 ((y : Int) / (G : Int)) = (y : Int) / (G : Int) := by
                            rw [e1]
                            generalize y / G = Q at *
                            exact IntWalk.wrap64_in _ (by omega)
                          have uw2 : IntKind.i64.wrap (Int.tdiv (y : Int) (G : Int)) = (y : Int) / (G : Int) := by
                            rw [Int.tdiv_eq_ediv_of_nonneg (by omega), e1]
                            generalize y / G = Q at *
                            exact IntWalk.i64_in _ (by omega)
                          clear e1 hQ hb hp
                          go_wp2
                          go_roundw
                          case rel => exact ⟨j + 1, by omega, by go_num, HSO, HSB⟩
                          case measure => simp [intOf]; omega
                        · as_aux_lemma =>
                          obtain rfl : m = j := by omega
                          have HF : Hid (Own wi2 w.heap.size (.slice (some ⟨go, 0, none⟩) m m) (krL xs l n)) := Lib.hid (by
                            have := HOi.out
                            rw [List.drop_of_length_le (by rw [HLO.out]; exact Nat.le_refl _), List.append_nil, List.take_of_length_le (by rw [List.length_map, HLO.out]; exact Nat.le_refl _), ← HLD.out, HLW.out] at this
                            exact this.mono HSZ.out)
                          go_wp2
                          go_ret2
                          exact ⟨_, _, rfl, fun _ => ⟨rfl, HF.out⟩, fun h => absurd h (by rw [HEV.out]; decide), Below.then HBp.out HBi.out⟩
end Go.Proofs.Ytajeledbmnndmaa

namespace Go.Proofs.Ytajeledbmnndmaa
open Go.RowKit Go.Sort
set_option maxRecDepth 100000
set_option maxHeartbeats 4000000 in
theorem evenOn_even (n : Nat) (sl : Value) (xs : List Int) (_hp : tourP n xs) (l : List Nat) (v : Value) (w : World) (h7 : l.length ≤ 7) (h : Rd w sl xs) (hv : Rd w v (nI l)) (hev : l.length % 2 = 0) :
    Calls Try.prog 73 #[.agg #[.int .i64 n, sl], v] w fun e w' => e = .returned (.slice none 0 0) ∧ Below w.heap.size w w' := by
  obtain ⟨A, c, rfl, -, hcm, -⟩ := h
  obtain ⟨B, d, rfl, hd1, hd2, -⟩ := hv
  unfold maxLen at hd2
  rw [nI_len] at hd1 ⊢
  obtain ⟨m, hmm⟩ : ∃ m, m = l.length := ⟨_, rfl⟩
  rw [← hmm] at hd1 hev h7 ⊢
  clear hmm
  have er : Int.tmod (m : Int) 2 = 0 := by rw [Int.tmod_eq_emod_of_nonneg (by omega)]; omega
  have er2 : (m : Int) % 2 = 0 := by omega
  go_enter Try.func73, Try.ntmps73
  have b0 := below_alloc1 w (.cells #[.int .i64 n, .slice A xs.length c] 28)
  have HB0 := Lib.hid b0
  clear b0
  go_wp2
  go_ret
  exact ⟨rfl, HB0.out⟩
end Go.Proofs.Ytajeledbmnndmaa

