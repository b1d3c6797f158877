/- Texts put together: OrdP, SmN, Clone, Flip. -/
import Derived.Test.YtbkiedhaacapbaaDoorMTours06
import Derived.Test.YtbkiedhaacapbaaDoorMTours05
import Derived.Test.YtbkiedhaacapbaaDoorMTours02
import Derived.Test.YtbkiedhaacapbaaDoorMTours01
import Derived.Test.YtbkiedhaacapbaaDoorMTours03
import Derived.Deep.RegionHeld3
import Derived.Deep.RegionLawGrows
namespace Go.Proofs.YtbkiedhaacapbaaDoor
open Go.RowKit Go.Sort
set_option maxRecDepth 100000
theorem perm_sum (F : Nat → Int) {l m : List Nat} (h : l.Perm m) : (l.map F).sum = (m.map F).sum := by
  induction h with
  | nil => rfl
  | cons x _ ih => simp only [List.map_cons, List.sum_cons, ih]
  | swap x y l => simp only [List.map_cons, List.sum_cons]; omega
  | trans _ _ h1 h2 => rw [h1, h2]
theorem perm_full : ∀ (q m : List Nat), q.Nodup → (∀ x ∈ q, x ∈ m) → m.length ≤ q.length → q.Perm m := by
  intro q
  induction q with
  | nil =>
    intro m _ _ h
    have : m = [] := List.eq_nil_of_length_eq_zero (by simpa using h)
    rw [this]
  | cons a q ih =>
    intro m hn hs hl
    have ha : a ∈ m := hs a (by simp)
    rw [List.nodup_cons] at hn
    have h1 : (m.erase a).length ≤ q.length := by
      rw [List.length_erase_of_mem ha]
      simp only [List.length_cons] at hl
      omega
    have h2 := ih (m.erase a) hn.2 (fun x hx => (List.mem_erase_of_ne (fun e => by subst e; exact hn.1 hx)).2 (hs x (by simp [hx]))) h1
    exact (h2.cons a).trans (List.perm_cons_erase ha).symm
theorem ord_perm {n : Nat} {q : List Nat} (hq : q ∈ ordL n) : q.Perm (List.range n) := by
  obtain ⟨h1, h2, h3⟩ := mem_ordL.1 hq
  exact perm_full q _ h3 (fun x hx => List.mem_range.2 (h2 x hx)) (by rw [List.length_range, h1]; exact Nat.le_refl _)
theorem ord_sum {n : Nat} {q : List Nat} (hq : q ∈ ordL n) (F : Nat → Int) : sumN F n = sumN (fun i => F (q.getD i 0)) n := by
  obtain ⟨h1, h2, h3⟩ := mem_ordL.1 hq
  have hperm : q.Perm (List.range n) := ord_perm hq
  rw [← map_sumN, ← perm_sum F hperm, list_sumN, List.length_map, h1]
  refine sumN_congr fun i hi => ?_
  have : i < q.length := by omega
  simp [List.getD_eq_getElem?_getD, this]
theorem ord_at {n : Nat} {q : List Nat} (hq : q ∈ ordL n) : (∀ i, i < n → q.getD i 0 < n) ∧ (∀ i k, i < n → k < n → q.getD i 0 = q.getD k 0 → i = k) ∧ ∀ b, b < n → ∃ k, k < n ∧ q.getD k 0 = b := by
  obtain ⟨h1, h2, h3⟩ := mem_ordL.1 hq
  refine ⟨fun i hi => h2 _ (by rw [getD_nat (by omega)]; exact List.getElem_mem _), fun i k hi hk e => ?_, fun b hb => ?_⟩
  · rw [getD_nat (by omega), getD_nat (by omega)] at e
    exact (List.getElem_inj h3).1 e
  · have : b ∈ q := (ord_perm hq).mem_iff.2 (List.mem_range.2 hb)
    obtain ⟨k, hk, rfl⟩ := List.getElem_of_mem this
    exact ⟨k, by omega, getD_nat hk⟩
end Go.Proofs.YtbkiedhaacapbaaDoor

namespace Go.Proofs.YtbkiedhaacapbaaDoor
open Go.RowKit Go.Sort
set_option maxRecDepth 100000
variable {n : Nat}
/-- a kind's names, as an order -/
theorem names_ord {f : Nat → Nat} (h1 : ∀ i, i < n → f i < n) (h2 : ∀ i k, i < n → k < n → f i = f k → i = k) : (List.range n).map f ∈ ordL n := by
  refine mem_ordL.2 ⟨by simp, fun x hx => ?_, ?_⟩
  · rw [List.mem_map] at hx
    obtain ⟨i, hi, rfl⟩ := hx
    exact h1 i (List.mem_range.1 hi)
  · rw [List.nodup_iff_pairwise_ne, List.pairwise_map]
    refine List.Pairwise.imp_of_mem (fun {a b} ha hb h e => h (h2 a b (List.mem_range.1 ha) (List.mem_range.1 hb) e)) List.nodup_range
theorem map_at {f : Nat → Nat} {i : Nat} (hi : i < n) : ((List.range n).map f).getD i 0 = f i := by simp [List.getD_eq_getElem?_getD, hi]
theorem sum_at {f : Nat → Nat} (h1 : ∀ i, i < n → f i < n) (h2 : ∀ i k, i < n → k < n → f i = f k → i = k) (F : Nat → Int) : sumN F n = sumN (fun i => F (f i)) n := by
  rw [ord_sum (names_ord h1 h2) F]
  exact sumN_congr fun k hk => by rw [map_at hk]
theorem sum_nat (F : Nat → Nat) (l : List Nat) : (((l.map F).sum : Nat) : Int) = (l.map fun a => (F a : Int)).sum := by
  induction l with
  | nil => rfl
  | cons a l ih => simp only [List.map_cons, List.sum_cons]; push_cast; rw [ih]
end Go.Proofs.YtbkiedhaacapbaaDoor

namespace Go.Proofs.YtbkiedhaacapbaaDoor
open Go.RowKit Go.Sort
set_option maxRecDepth 100000

theorem wp_appendN {ops : Array Oper} {rest : List Oper} {o : Oper} {a : Act} {Q : Exit → Act → World → Prop} (w : World) (hgd : o.guard = none) (s x : Operand)
    (ho : o.op = .call { callee := .builtin .append, args := #[s, x], argTypes := #[23, 23] })
    (base : Nat) (v : Value) (xs : List Int) (hs : a.eval s = v) (hown : Own w base v xs) (ad : Addr) (c : Nat) (ys : List Int) (hx : a.eval x = .slice (some ad) ys.length c)
    (hc : ∀ k, k < ys.length → w.cell? (ad.add k) = some (.int .i64 (ys.getD k 0)))
    (hlen : xs.length + ys.length ≤ 1099511627776) (hbase : base ≤ w.heap.size)
    (h : ∀ v' w', Own w' base v' (xs ++ ys) → w.grownBy w' v.ownBlock → wpList Tryd.prog ops Q rest (a.put o.dst v') w') :
    wpList Tryd.prog ops Q (o :: rest) a w := by
  obtain ⟨i0, hi, hz0, hz1, hz2⟩ := info_parts i64_info
  have hown' : w.ownsRow base 3 1 v xs.length (xs.map (Value.int .i64)) := hown
  refine wpList_append_own _ hgd s x 23 ho base 3 i0 (.int .i64 0) 1 8 Tryd.underlying23 hi hz0 hz1 hz2 rfl (by decide) v xs.length (xs.map (Value.int .i64)) hs hown' ad ys.length c (ys.map (Value.int .i64)) hx (by simp) ?_ ?_ ?_ ?_ ?_ ?_
  · intro j u hj
    have hjl : j < ys.length := by simpa using (List.getElem?_eq_some_iff.1 hj).1
    rw [hc j hjl]
    simp [hjl] at hj
    simp [hjl, hj]
  · intro u hu; simp at hu; obtain ⟨y, -, rfl⟩ := hu; rfl
  · unfold maxLen; omega
  · omega
  · exact hbase
  · intro v' w' h1 h2 _
    refine h v' w' ?_ h2
    unfold Own
    rw [List.length_append, List.map_append]
    exact h1
set_option maxHeartbeats 400000 in
theorem clone_any (v : Value) (xs : List Int) (w : World) (h : Rd w v xs) (h0 : 0 < xs.length) (hl : xs.length ≤ 1048576) :
    Calls Tryd.prog 76 #[v] w fun e w' => ∃ v', e = .returned v' ∧ Own w' w.heap.size v' xs ∧ Below w.heap.size w w' := by
  obtain ⟨A, c, rfl, hlc, hm, hc⟩ := h
  obtain ⟨g, off, rfl, hg, hx⟩ := hc h0
  have hx' : ∀ k, k < xs.length → (w.alloc (.cells #[] 3)).cell? ((⟨g, off, none⟩ : Addr).add k) = some (.int .i64 (xs.getD k 0)) := fun k hk => by
    rw [Addr.add_lit, World.cell?_alloc_lt _ _ _ (by exact hg)]
    exact hx k hk
  have HX := Lib.hid hx'
  have ho := Own.lit w w.heap.size [] (Nat.le_refl _) (by simp)
  have HO := Lib.hid ho
  clear hx hx' hc ho
  generalize hn : xs.length = n at *
  have HN := Lib.hid hn
  have e0 : ∀ w : World, (binOp .eql 23 (.slice (some ⟨g, off, none⟩) n c) (.slice none 0 0)).run Tryd.prog w = .ok (.bool false) w := fun _ => by kernel_rfl
  go_enter Tryd.func76, Tryd.ntmps76
  go_wp2_with (at_builtin; refine wp_appendN (w.alloc (.cells #[] 3)) rfl (.tmp 5) (.tmp 6) rfl w.heap.size _ [] rfl HO.out ⟨g, off, none⟩ c xs (by rw [hn]; simp [Act.eval]) (by rw [hn]; exact HX.out) (by simp; omega) (by simp) ?_; intro v' w' ho hgr; have HO2 := Lib.hid ho; have HG2 := Lib.hid hgr; clear ho hgr)
  go_ret
  exact ⟨_, rfl, by simpa using HO2.out, Below.grown (below_alloc1 w _) HG2.out (by simp) (fun k hk => (HO.out.lt k hk).1)⟩
end Go.Proofs.YtbkiedhaacapbaaDoor

namespace Go.Proofs.YtbkiedhaacapbaaDoor
open Go.RowKit Go.Sort
set_option maxRecDepth 100000

/-- one digit turned over -/
def xorI (x : Int) (b : Nat) : Int := bits BinOp.xor IntKind.i64 x (wrap64 (2 ^ b))
def flipL (xs : List Int) (a b : Nat) : List Int := (xs.set a (xorI (xs.getD a 0) b)).set b (xorI ((xs.set a (xorI (xs.getD a 0) b)).getD b 0) a)
theorem flipL_len (xs : List Int) (a b : Nat) : (flipL xs a b).length = xs.length := by simp [flipL]
set_option maxHeartbeats 2000000 in
theorem flipped_any (s : Int) (sl : Value) (xs : List Int) (a b : Nat) (w : World) (h : Rd w sl xs) (hl : xs.length ≤ 8) (ha : a < xs.length) (hb : b < xs.length) :
    Calls Tryd.prog 67 #[.agg #[.int .i64 s, sl], .int .i64 a, .int .i64 b] w fun e w' => ∃ sl', e = .returned (.agg #[.int .i64 s, sl']) ∧ Own w' w.heap.size sl' (flipL xs a b) ∧ Below w.heap.size w w' := by
  have HR := Lib.hid h
  obtain ⟨A, c, rfl, -, -, -⟩ := h
  go_enter Tryd.func67, Tryd.ntmps67
  go_wp2_with fail
  have b0 := (below_alloc1 w (.cells #[.int .i64 s, .slice A xs.length c] 25)).alloc (by simp) (.cells #[.int .i64 0, .slice none 0 0] 25)
  have x0 := (TBox.new w s (.slice A xs.length c) 25).below (below_alloc1 _ (.cells #[.int .i64 0, .slice none 0 0] 25))
  have t0 := BoxF.new (w.alloc (.cells #[.int .i64 s, .slice A xs.length c] 25)) 0 (.slice none 0 0) 25
  simp only [World.size_alloc] at t0
  generalize (w.alloc (.cells #[.int .i64 s, .slice A xs.length c] 25)).alloc (.cells #[.int .i64 0, .slice none 0 0] 25) = w0 at *
  have HX0 := Lib.hid x0
  have HB0 := Lib.hid b0
  have HT0 := Lib.hid t0
  clear x0 b0 t0
  have y0_0 := HX0.out.1
  have y1_0 := HX0.out.2
  have hg0 := HX0.out.1
  have hgt0 : w.heap.size + 1 < w0.heap.size := HT0.out.gt
  have HDX := Lib.hid (show TBox w0.drew w.heap.size s (.slice A xs.length c) from HX0.out)
  have HDT := Lib.hid (show BoxF w0.drew (w.heap.size + 1) 0 (.slice none 0 0) from HT0.out)
  have HDB := Lib.hid (show Below w.heap.size w w0.drew from ⟨HB0.out.os, HB0.out.tape, HB0.out.output, HB0.out.size, HB0.out.block⟩)
  have bA := below_alloc1 w0 (.cells #[.int .i64 0, .slice none 0 0] 25)
  have hXA := HX0.out.below bA
  have hTA := HT0.out.below bA
  have HAX := Lib.hid (show TBox (w0.alloc (.cells #[.int .i64 0, .slice none 0 0] 25)).drew w.heap.size s (.slice A xs.length c) from hXA)
  have HAT := Lib.hid (show BoxF (w0.alloc (.cells #[.int .i64 0, .slice none 0 0] 25)).drew (w.heap.size + 1) 0 (.slice none 0 0) from hTA)
  have HAU := Lib.hid (show BoxF (w0.alloc (.cells #[.int .i64 0, .slice none 0 0] 25)).drew w0.heap.size 0 (.slice none 0 0) from BoxF.new w0 0 (.slice none 0 0) 25)
  have HAB := Lib.hid (show Below w.heap.size w (w0.alloc (.cells #[.int .i64 0, .slice none 0 0] 25)).drew from (let q := Below.then HB0.out bA; ⟨q.os, q.tape, q.output, q.size, q.block⟩))
  have ya0 := hXA.1
  have ya1 := hXA.2
  clear bA hXA hTA hg0
  go_region_held3 (fun W => W.cell? ⟨w.heap.size, 0, none⟩ = some (.int .i64 s) ∧ W.cell? ⟨w.heap.size, 1, none⟩ = some (.slice A xs.length c))
    (first | exact ⟨y0_0, y1_0⟩ | exact ⟨ya0, ya1⟩ | exact ⟨y0_1, y1_1⟩ | exact ⟨yb0, yb1⟩ | exact ⟨yc0, yc1⟩)
    (first
      | (go_at_call 76; refine (clone_any (.slice A xs.length c) xs w0.drew (HR.out.below HDB.out) (by omega) (by omega)).mono ?_; rintro e w1 ⟨v1, rfl, ho1, hb1⟩; obtain ⟨Y, cy, rfl, hcy, hly, hgy⟩ := ho1.form; have HX1 := Lib.hid (HDX.out.below hb1); have HT1 := Lib.hid (HDT.out.below hb1); have HB1 := Lib.hid (Below.then HDB.out hb1); have y0_1 := HX1.out.1; have y1_1 := HX1.out.2; have HO1 := Lib.hid (show Own w1 w0.heap.size _ _ from ho1); have hXb := HX1.out.below (below_alloc1 w1 (.cells #[.int .i64 0, .slice none 0 0] 25)); have yb0 := hXb.1; have yb1 := hXb.2; have hXc := HX1.out.below (below_alloc1 w1 (.cells #[.int .i64 s, .slice Y xs.length cy] 25)); have yc0 := hXc.1; have yc1 := hXc.2; have WAY : Hid (0 = 0) := rfl; have hs1 := hb1.size; clear hXb hXc ho1 hb1)
      | (go_at_call 76; refine (clone_any (.slice A xs.length c) xs (w0.alloc (.cells #[.int .i64 0, .slice none 0 0] 25)).drew (HR.out.below HAB.out) (by omega) (by omega)).mono ?_; rintro e w1 ⟨v1, rfl, ho1, hb1⟩; obtain ⟨Y, cy, rfl, hcy, hly, hgy⟩ := ho1.form; have HX1 := Lib.hid (HAX.out.below hb1); have HT1 := Lib.hid (HAT.out.below hb1); have HU1 := Lib.hid (HAU.out.below hb1); have HB1 := Lib.hid (Below.then HAB.out hb1); have y0_1 := HX1.out.1; have y1_1 := HX1.out.2; have u0 := HU1.out.1.1; have u1 := HU1.out.1.2; have uf0 := HU1.out.2 0; have uf1 := HU1.out.2 1; have HO1 := Lib.hid (show Own w1 (w0.alloc (.cells #[.int .i64 0, .slice none 0 0] 25)).heap.size _ _ from ho1); have hs1 := hb1.size; have hXc := (HX1.out.kept (setCell_grown _ ⟨w0.heap.size, 0, none⟩ (.int .i64 s)) (by simp; omega)).kept (setCell_grown _ ⟨w0.heap.size, 1, none⟩ (.slice Y xs.length cy)) (by simp; omega); have yc0 := hXc.1; have yc1 := hXc.2; clear hXc ho1 hb1))
  all_goals
    obtain ⟨gy, rfl, hgy1, hgy2⟩ := hgy (by omega)
    clear y0_0 y1_0 y0_1 y1_1 yc0 yc1 ya0 ya1
    first
      | (clear yb0 yb1
         have hs2 : w0.heap.size ≤ w1.heap.size := hs1
         have hs3 : w0.heap.size ≤ gy := hgy1
         have HU := Lib.hid (BoxF.new w1 s (.slice (some ⟨gy, 0, none⟩) xs.length cy) 25)
         have b2 := below_alloc1 w1 (.cells #[.int .i64 s, .slice (some ⟨gy, 0, none⟩) xs.length cy] 25)
         have HT := Lib.hid (HT1.out.below b2)
         have HO := Lib.hid (HO1.out.below b2)
         have HB := Lib.hid (Below.then HB1.out b2)
         have hgu : w.heap.size + 1 < w1.heap.size ∧ w1.heap.size ≠ gy := by omega
         clear b2 HO1 HT1 HB1 HX1
         generalize w1.alloc (.cells #[.int .i64 s, .slice (some ⟨gy, 0, none⟩) xs.length cy] 25) = W at *
         generalize w1.heap.size = gu at *)
      | (have hs2 : w0.heap.size + 1 ≤ gy := by simpa using hgy1
         have HU := Lib.hid (HU1.out.set01 s (.slice (some ⟨gy, 0, none⟩) xs.length cy))
         have HT := Lib.hid ((HT1.out.kept (setCell_grown _ ⟨w0.heap.size, 0, none⟩ (.int .i64 s)) (by simp; omega)).kept (setCell_grown _ ⟨w0.heap.size, 1, none⟩ (.slice (some ⟨gy, 0, none⟩) xs.length cy)) (by simp; omega))
         have HO := Lib.hid (((HO1.out.mono (show w0.heap.size ≤ _ by simp)).kept (setCell_grown _ ⟨w0.heap.size, 0, none⟩ (.int .i64 s)) (by right; simp [Value.ownBlock]; omega)).kept (setCell_grown _ ⟨w0.heap.size, 1, none⟩ (.slice (some ⟨gy, 0, none⟩) xs.length cy)) (by right; simp [Value.ownBlock]; omega))
         have HB := Lib.hid ((HB1.out.setCell (p := ⟨w0.heap.size, 0, none⟩) (show w.heap.size ≤ w0.heap.size by omega) (.int .i64 s)).setCell (p := ⟨w0.heap.size, 1, none⟩) (show w.heap.size ≤ w0.heap.size by omega) (.slice (some ⟨gy, 0, none⟩) xs.length cy))
         have hgu : w.heap.size + 1 < w0.heap.size ∧ w0.heap.size ≠ gy := by omega
         clear u0 u1 uf0 uf1 HO1 HT1 HB1 HX1 HU1
         generalize ((w1.setCell ⟨w0.heap.size, 0, none⟩ (.int .i64 s)).setCell ⟨w0.heap.size, 1, none⟩ (.slice (some ⟨gy, 0, none⟩) xs.length cy)) = W at *
         obtain ⟨gu, hgue⟩ : ∃ gu, gu = w0.heap.size := ⟨_, rfl⟩
         rw [← hgue] at HU hgu ⊢
         clear hgue)
    have hgy3 : w.heap.size + 1 < gy := by omega
    clear hgy1 hgy2
    have za := (HO.out.at1 rfl (by omega)).1 a ha
    obtain ⟨x, hx⟩ : ∃ x, x = xs.getD a 0 := ⟨_, rfl⟩
    obtain ⟨x1, hx1⟩ : ∃ x1, x1 = bits BinOp.xor IntKind.i64 x (wrap64 (2 ^ b)) := ⟨_, rfl⟩
    have HE1 : Hid (x1 = xorI (xs.getD a 0) b) := by unfold Hid xorI; rw [hx1, hx]
    rw [← hx] at za
    have hxor := hx1.symm
    have c1 := cell_regrown HU.out.1.2
    have c2 := cell_regrown za
    clear za hx1 hx
    go_wp2_with fail
    refine wp_region_below_tail 9 (by kernel_rfl) (by kernel_rfl) ?_
    simp only [List.take_succ_cons, List.take_zero, List.drop_succ_cons, List.drop_zero]
    repeat (go_big_quiet_step (first | (with_reducible fail)))
    refine wpQuiet_nil ?_
    intro wq hbq0
    have hbq := Lib.hid hbq0
    clear hbq0
    clear c1 c2 hxor
    have O2 := HO.out.below hbq.out
    obtain ⟨hx2, hf2⟩ := O2.at1 rfl (by omega)
    have za := hx2 a ha
    have fa := hf2 a
    have O3 := (O2.set_ rfl a x1).1
    have HU3 := Lib.hid ((HU.out.below hbq.out).kept (setCell_grown _ ⟨gy, a, none⟩ (.int .i64 x1)) (by simp; omega))
    have HT3 := Lib.hid ((HT.out.below hbq.out).kept (setCell_grown _ ⟨gy, a, none⟩ (.int .i64 x1)) (by simp; omega))
    have HB3 := Lib.hid ((Below.then HB.out hbq.out).setCell (p := ⟨gy, a, none⟩) (show w.heap.size ≤ gy by omega) (.int .i64 x1))
    have HO3 := Lib.hid O3
    have hl1 : (xs.set a x1).length = xs.length := by simp
    clear hx2 hf2 O2 O3 HO HU HT HB
    generalize hL : xs.set a x1 = L at *
    have HL := Lib.hid hL
    clear hL
    generalize hn : xs.length = n at *
    have HN := Lib.hid hn
    go_wp2_with fail
    clear za fa
    have zb := (HO3.out.at1 hl1 (by omega)).1 b hb
    obtain ⟨y, hy⟩ : ∃ y, y = L.getD b 0 := ⟨_, rfl⟩
    obtain ⟨y1, hy1⟩ : ∃ y1, y1 = bits BinOp.xor IntKind.i64 y (wrap64 (2 ^ a)) := ⟨_, rfl⟩
    have HE2 : Hid (y1 = xorI (L.getD b 0) a) := by unfold Hid xorI; rw [hy1, hy]
    rw [← hy] at zb
    have hxor := hy1.symm
    have c1 := cell_regrown HU3.out.1.2
    have c2 := cell_regrown zb
    clear zb hy1 hy
    refine wp_region_below_tail 9 (by kernel_rfl) (by kernel_rfl) ?_
    simp only [List.take_succ_cons, List.take_zero, List.drop_succ_cons, List.drop_zero]
    repeat (go_big_quiet_step (first | (with_reducible fail)))
    refine wpQuiet_nil ?_
    intro wq hbq0
    have hbq := Lib.hid hbq0
    clear hbq0
    clear c1 c2 hxor
    have O2 := HO3.out.below hbq.out
    obtain ⟨hx2, hf2⟩ := O2.at1 hl1 (by omega)
    have zb := hx2 b hb
    have fb := hf2 b
    have O5 := (O2.set_ hl1 b y1).1
    have hl5 : (L.set b y1).length = n := by simp [hl1]
    have HE : Hid (L.set b y1 = flipL xs a b) := by unfold Hid flipL; rw [← HE1.out, HL.out, ← HE2.out]
    have HU5 := (HU3.out.below hbq.out).kept (setCell_grown _ ⟨gy, b, none⟩ (.int .i64 y1)) (by simp; omega)
    have HT5 := (HT3.out.below hbq.out).kept (setCell_grown _ ⟨gy, b, none⟩ (.int .i64 y1)) (by simp; omega)
    have HB5 := Lib.hid ((Below.then HB3.out hbq.out).setCell (p := ⟨gy, b, none⟩) (show w.heap.size ≤ gy by omega) (.int .i64 y1))
    have HO5 := Lib.hid O5
    have HU3q := HU3.out.below hbq.out
    have HT3q := HT3.out.below hbq.out
    clear hx2 hf2 O2 O5 HO3 HU3 HT3 HB3 hbq
    have HTq := HT3q
    have u0 := HU3q.1.1
    have u1 := HU3q.1.2
    have v0 := HT3q.1.1
    have v1 := HT3q.1.2
    have f0 := HT3q.2 0
    have f1 := HT3q.2 1
    have V0 := Lib.hid HT5.1.1
    have V1 := Lib.hid HT5.1.2
    have hgu2 := hgu.2
    have hgu3 : gy ≠ gu := fun e => hgu2 e.symm
    have hgu4 : gy ≠ w.heap.size + 1 := by omega
    clear HTq HU5 HT5
    have HOx := Lib.hid ((HO5.out.kept (setCell_grown _ ⟨w.heap.size + 1, 0, none⟩ (.int .i64 s)) (by right; simp [Value.ownBlock]; omega)).kept (setCell_grown _ ⟨w.heap.size + 1, 1, none⟩ (.slice (some ⟨gy, 0, none⟩) n cy)) (by right; simp [Value.ownBlock]; omega))
    have HBx := Lib.hid ((HB5.out.setCell (p := ⟨w.heap.size + 1, 0, none⟩) (by simp) (.int .i64 s)).setCell (p := ⟨w.heap.size + 1, 1, none⟩) (by simp) (.slice (some ⟨gy, 0, none⟩) n cy))
    have R0 : Hid ((((wq.setCell ⟨gy, b, none⟩ (.int .i64 y1)).setCell ⟨w.heap.size + 1, 0, none⟩ (.int .i64 s)).setCell ⟨w.heap.size + 1, 1, none⟩ (.slice (some ⟨gy, 0, none⟩) n cy)).cell? ⟨w.heap.size + 1, 0, none⟩ = some (.int .i64 s)) := (World.cell?_setCell_other _ _ _ _ (by simp)).trans (World.cell?_setCell_same _ _ _ V0.out)
    have R1 : Hid ((((wq.setCell ⟨gy, b, none⟩ (.int .i64 y1)).setCell ⟨w.heap.size + 1, 0, none⟩ (.int .i64 s)).setCell ⟨w.heap.size + 1, 1, none⟩ (.slice (some ⟨gy, 0, none⟩) n cy)).cell? ⟨w.heap.size + 1, 1, none⟩ = some (.slice (some ⟨gy, 0, none⟩) n cy)) := World.cell?_setCell_same _ _ _ ((World.cell?_setCell_other _ _ _ _ (by simp)).trans V1.out)
    clear HU3q HT3q
    go_wp2
    have r0 := R0.out
    have r1 := R1.out
    refine bodyPost_ret (v := .agg #[.int .i64 s, .slice (some ⟨gy, 0, none⟩) n cy]) (by simp only [results, Tryd.results67]; simp [go_sem, r0, r1]) rfl ⟨_, rfl, ?_, HBx.out⟩
    rw [← HE.out]
    exact HOx.out.mono (by omega)
end Go.Proofs.YtbkiedhaacapbaaDoor

