/- Texts put together: Way, Perm, Perm2, Sym, Sym2, LexC, Code, OfBits. -/
import Derived.Test.YtajeledbmnndmaaMSafe02
import Derived.Test.YtajeledbmnndmaaMSafe01
import Derived.Test.YtajeledbmnndmaaMSafe03
import Derived.Test.YtajeledbmnndmaaMSafe10
import Derived.Test.YtajeledbmnndmaaMSafe05
import Derived.Test.YtajeledbmnndmaaMSafe04
namespace Go.Proofs.Ytajeledbmnndmaa
open Go.RowKit Go.Sort

/-- the i-th of a list goes on a way -/
def wayAt (s : Int) (xs ys : List Int) (i : Nat) : Bool := inB (ys.getD i 0) 0 (s - 1) && (!(containsI (ys.take i) (ys.getD i 0)) && (i == 0 || bitI (xs.getD (ys.getD (i - 1) 0).toNat 0) (ys.getD i 0).toNat))
def wayK (s : Int) (xs ys : List Int) (k : Nat) : Bool := (List.range k).all (wayAt s xs ys)
noncomputable def wayB (s : Int) (xs ys : List Int) : Bool := tourB s xs && wayK s xs ys ys.length
theorem wayK_true {s : Int} {xs ys : List Int} {k : Nat} : wayK s xs ys k = true ↔ ∀ i, i < k → wayAt s xs ys i = true := by simp [wayK]
theorem wayK_no {s : Int} {xs ys : List Int} {k n : Nat} (hk : k < n) (h : wayAt s xs ys k = false) : wayK s xs ys n = false := by
  rcases hq : wayK s xs ys n with _ | _
  · rfl
  · have := wayK_true.1 hq k hk; rw [h] at this; cases this
theorem Rd.take_ {w : World} {A : Option Addr} {n c : Nat} {ys : List Int} (h : Rd w (.slice A n c) ys) (k : Nat) (hk : k ≤ ys.length) : Rd w (.slice A k c) (ys.take k) := by
  obtain ⟨A', c', e, hl, hm, hc⟩ := h
  injection e with e1 e2 e3
  subst e1
  subst e3
  have hl2 : (ys.take k).length = k := by rw [List.length_take]; omega
  refine ⟨A, c, by rw [hl2], by omega, hm, fun h0 => ?_⟩
  obtain ⟨g, off, hA, hg, hx⟩ := hc (by omega)
  refine ⟨g, off, hA, hg, fun j hj => ?_⟩
  rw [hx j (by omega)]
  congr 2
  simp [List.getD_eq_getElem?_getD, List.getElem?_take, show j < k by omega]
set_option maxHeartbeats 2000000 in
theorem implIsWay (s : Int) (sl : Value) (xs : List Int) (yv : Value) (ys : List Int) (w : World) (h : Rd w sl xs) (h2 : Rd w yv ys) :
    Calls Try.prog 41 #[.agg #[.int .i64 s, sl], yv] w fun e w' => e = .returned (.bool (wayB s xs ys)) ∧ Below w.heap.size w w' := by
  have HR := Lib.hid h
  have HW := Lib.hid h2
  obtain ⟨A, c, rfl, -, -, -⟩ := h
  obtain ⟨B, d, rfl, hl2, hm2, hc2⟩ := h2
  unfold maxLen at hm2
  have HC := Lib.hid hc2
  clear hc2
  rcases q0 : tourB s xs with _ | _
  case false =>
    go_enter Try.func41, Try.ntmps41
    go_wp2_with fail
    have b0 := below_alloc1 w (.cells #[.int .i64 s, .slice A xs.length c] 28)
    have x0 := TBox.new w s (.slice A xs.length c) 28
    generalize w.alloc (.cells #[.int .i64 s, .slice A xs.length c] 28) = w0 at *
    have HX0 := Lib.hid x0
    have HB0 := Lib.hid b0
    clear x0 b0
    have y0_0 := HX0.out.1
    have y1_0 := HX0.out.2
    go_wp2_with fail
    refine (implTourOk s _ xs _ (HR.out.below HB0.out)).mono ?_
    rintro e w1 ⟨rfl, hb⟩
    have HX1 := Lib.hid (HX0.out.below hb)
    have HB1 := Lib.hid (Below.then HB0.out hb)
    clear hb HX0 HB0 y0_0 y1_0
    have y0_1 := HX1.out.1
    have y1_1 := HX1.out.2
    rw [q0]
    go_wp2
    go_ret
    exact ⟨ret_bool (by simp [wayB, *]), HB1.out⟩
  have hs := (tourB_true.1 q0).1
  have hsl := (tourB_true.1 q0).2.1
  go_enter Try.func41, Try.ntmps41
  go_wp2_with fail
  have b0 := below_alloc1 w (.cells #[.int .i64 s, .slice A xs.length c] 28)
  have x0 := TBox.new w s (.slice A xs.length c) 28
  generalize w.alloc (.cells #[.int .i64 s, .slice A xs.length c] 28) = w0 at *
  have HX0 := Lib.hid x0
  have HB0 := Lib.hid b0
  clear x0 b0
  have y0_0 := HX0.out.1
  have y1_0 := HX0.out.2
  go_wp2_with fail
  refine (implTourOk s _ xs _ (HR.out.below HB0.out)).mono ?_
  rintro e w1 ⟨rfl, hb⟩
  have HX1 := Lib.hid (HX0.out.below hb)
  have HB1 := Lib.hid (Below.then HB0.out hb)
  clear hb HX0 HB0 y0_0 y1_0
  have y0_1 := HX1.out.1
  have y1_1 := HX1.out.2
  rw [q0]
  generalize hn : ys.length = n at *
  have HN := Lib.hid hn
  clear hn
  go_wp2
  go_loopw [12] (fun i wr => ∃ k : Nat, k ≤ n ∧ i = .int .i64 k ∧ Hid (∀ j, j < k → wayAt s xs ys j = true) ∧ Below w.heap.size w wr ∧ TBox wr w.heap.size s (.slice A xs.length c)) (fun i _ => n - (intOf i).toNat)
  case atStart => exact ⟨0, by omega, rfl, fun _ h => absurd h (by omega), HB1.out, HX1.out⟩
  case round =>
    obtain ⟨k, hk, rfl, HP, hb, hx⟩ := hrel
    have HB2 := Lib.hid hb
    have HX2 := Lib.hid hx
    have y0_0 := hx.1
    have y1_0 := hx.2
    clear hx hb HB1 HX1 y0_1 y1_1
    by_cases hlt : k < n
    · obtain ⟨g, off, rfl, hg, hy⟩ := HC.out (by omega)
      have hyk := (HB2.out.cell (by exact hg)).trans (hy k hlt)
      have hat : wayAt s xs ys k = (inB (ys.getD k 0) 0 (s - 1) && (!(containsI (ys.take k) (ys.getD k 0)) && (k == 0 || bitI (xs.getD (ys.getD (k - 1) 0).toNat 0) (ys.getD k 0).toNat))) := rfl
      have HA := Lib.hid hat
      have ky := fun (y : Int) => quiet_below (w := wr) (fun W hW => has_any s (.slice A xs.length c) y W (by omega))
      have kc := fun (y : Int) => quiet_below (w := wr) (fun W hW => of_same (contains_any _ (ys.take k) y W (((HW.out.below HB2.out).below hW).take_ k (by rw [HN.out]; omega))))
      have k1 := ky (ys.getD k 0)
      have k2 := kc (ys.getD k 0)
      have k3 := fun h1 h2 h3 h4 => quiet_below (w := wr) (fun W hW => beats_any s (.slice A xs.length c) xs (ys.getD (k - 1) 0) (ys.getD k 0) W ((HR.out.below HB2.out).below hW) h1 h2 h3 h4)
      clear ky kc hat
      have FALSE := Lib.hid (fun (hq : wayAt s xs ys k = false) => show wayB s xs ys = false by rw [wayB, wayK_no (by rw [HN.out]; exact hlt) hq, Bool.and_false])
      have NEXT := Lib.hid (fun (hq : wayAt s xs ys k = true) => show ∀ j, j < k + 1 → wayAt s xs ys j = true from fun j hj => by
        by_cases hjk : j < k
        · exact HP.out j hjk
        · obtain rfl : j = k := by omega
          exact hq)
      rcases Nat.eq_zero_or_pos k with rfl | hk0
      · clear k3 hy
        rw [Nat.add_zero] at hyk
        generalize ys.getD 0 0 = y at *
        rcases q1 : inB y 0 (s - 1) with _ | _
        · rw [q1] at k1
          go_wp2_with fail
          have y0_q := cell_regrown y0_0
          have y1_q := cell_regrown y1_0
          clear y0_0 y1_0
          refine wp_region_below (by kernel_rfl) (by kernel_rfl) ?_
          repeat (go_big_quiet_step (first | (with_reducible exact k1 _ _)))
          refine wpQuiet_nil ?_
          intro wq hbq0
          have hbq := Lib.hid hbq0
          clear hbq0
          clear y0_q y1_q
          go_wp2
          go_ret
          exact ⟨ret_bool (FALSE.out (by rw [HA.out, q1]; rfl)).symm, Below.then HB2.out hbq.out⟩
        · rw [q1] at k1
          rcases q2 : containsI (ys.take 0) y with _ | _
          · rw [q2] at k2
            go_wp2_with fail
            have y0_q := cell_regrown y0_0
            have y1_q := cell_regrown y1_0
            clear y0_0 y1_0
            refine wp_region_below (by kernel_rfl) (by kernel_rfl) ?_
            repeat (go_big_quiet_step (first | (with_reducible exact k1 _ _) | (with_reducible exact k2 _ _)))
            refine wpQuiet_nil ?_
            intro wq hbq0
            have hbq := Lib.hid hbq0
            clear hbq0
            clear y0_q y1_q
            go_wp2
            go_roundw
            case rel => exact ⟨0 + 1, by omega, by go_num, NEXT.out (by rw [HA.out, q1, q2]; rfl), Below.then HB2.out hbq.out, HX2.out.below hbq.out⟩
            case measure => simp [intOf]; omega
          · rw [q2] at k2
            go_wp2_with fail
            have y0_q := cell_regrown y0_0
            have y1_q := cell_regrown y1_0
            clear y0_0 y1_0
            refine wp_region_below (by kernel_rfl) (by kernel_rfl) ?_
            repeat (go_big_quiet_step (first | (with_reducible exact k1 _ _) | (with_reducible exact k2 _ _)))
            refine wpQuiet_nil ?_
            intro wq hbq0
            have hbq := Lib.hid hbq0
            clear hbq0
            clear y0_q y1_q
            go_wp2
            go_ret
            exact ⟨ret_bool (FALSE.out (by rw [HA.out, q1, q2]; rfl)).symm, Below.then HB2.out hbq.out⟩
      · obtain ⟨m, rfl⟩ : ∃ m, k = m + 1 := ⟨k - 1, by omega⟩
        have hym := (HB2.out.cell (by exact hg)).trans (hy m (by omega))
        have cm := cell_regrown hym
        have hpm := HP.out m (by omega)
        simp only [Nat.add_sub_cancel] at k3 HA
        clear hy hym
        unfold wayAt at hpm
        rw [Bool.and_eq_true] at hpm
        have hy' := inB_true.1 hpm.1
        clear hpm
        generalize ys.getD (m + 1) 0 = y at *
        generalize ys.getD m 0 = y' at *
        rcases q1 : inB y 0 (s - 1) with _ | _
        · rw [q1] at k1
          go_wp2_with fail
          have y0_q := cell_regrown y0_0
          have y1_q := cell_regrown y1_0
          clear y0_0 y1_0
          refine wp_region_below (by kernel_rfl) (by kernel_rfl) ?_
          repeat (go_big_quiet_step (first | (with_reducible exact k1 _ _)))
          refine wpQuiet_nil ?_
          intro wq hbq0
          have hbq := Lib.hid hbq0
          clear hbq0
          clear y0_q y1_q
          go_wp2
          go_ret
          exact ⟨ret_bool (FALSE.out (by rw [HA.out, q1]; rfl)).symm, Below.then HB2.out hbq.out⟩
        · rw [q1] at k1
          have hy1 := inB_true.1 q1
          have k4 := k3 (by omega) (by omega) (by omega) (by omega)
          clear k3
          rcases q2 : containsI (ys.take (m + 1)) y with _ | _
          · rw [q2] at k2
            rcases q3 : bitI (xs.getD y'.toNat 0) y.toNat with _ | _
            · rw [q3] at k4
              go_wp2_with fail
              have y0_q := cell_regrown y0_0
              have y1_q := cell_regrown y1_0
              clear y0_0 y1_0
              refine wp_region_below (by kernel_rfl) (by kernel_rfl) ?_
              repeat (go_big_quiet_step (first | (with_reducible exact k1 _ _) | (with_reducible exact k2 _ _) | (with_reducible exact k4 _ _)))
              refine wpQuiet_nil ?_
              intro wq hbq0
              have hbq := Lib.hid hbq0
              clear hbq0
              clear y0_q y1_q
              go_wp2
              go_ret
              exact ⟨ret_bool (FALSE.out (by rw [HA.out, q1, q2, q3]; rfl)).symm, Below.then HB2.out hbq.out⟩
            · rw [q3] at k4
              go_wp2_with fail
              have y0_q := cell_regrown y0_0
              have y1_q := cell_regrown y1_0
              clear y0_0 y1_0
              refine wp_region_below (by kernel_rfl) (by kernel_rfl) ?_
              repeat (go_big_quiet_step (first | (with_reducible exact k1 _ _) | (with_reducible exact k2 _ _) | (with_reducible exact k4 _ _)))
              refine wpQuiet_nil ?_
              intro wq hbq0
              have hbq := Lib.hid hbq0
              clear hbq0
              clear y0_q y1_q
              go_wp2
              go_roundw
              case rel => exact ⟨m + 1 + 1, by omega, by go_num, NEXT.out (by rw [HA.out, q1, q2, q3]; simp), Below.then HB2.out hbq.out, HX2.out.below hbq.out⟩
              case measure => simp [intOf]; omega
          · rw [q2] at k2
            go_wp2_with fail
            have y0_q := cell_regrown y0_0
            have y1_q := cell_regrown y1_0
            clear y0_0 y1_0
            refine wp_region_below (by kernel_rfl) (by kernel_rfl) ?_
            repeat (go_big_quiet_step (first | (with_reducible exact k1 _ _) | (with_reducible exact k2 _ _)))
            refine wpQuiet_nil ?_
            intro wq hbq0
            have hbq := Lib.hid hbq0
            clear hbq0
            clear y0_q y1_q
            go_wp2
            go_ret
            exact ⟨ret_bool (FALSE.out (by rw [HA.out, q1, q2]; rfl)).symm, Below.then HB2.out hbq.out⟩
    · obtain rfl : k = n := by omega
      go_wp2
      go_ret
      refine ⟨ret_bool ?_, HB2.out⟩
      rw [wayB, q0, HN.out, wayK_true.2 HP.out]; rfl
theorem wayAt_parts {s : Int} {xs ys : List Int} {i : Nat} (h : wayAt s xs ys i = true) : (0 ≤ ys.getD i 0 ∧ ys.getD i 0 ≤ s - 1) ∧ ys.getD i 0 ∉ ys.take i := by
  unfold wayAt containsI at h
  rw [Bool.and_eq_true, Bool.and_eq_true] at h
  exact ⟨inB_true.1 h.1, by simpa using h.2.1⟩
theorem way_nodup {s : Int} {xs ys : List Int} {k : Nat} (hk : k ≤ ys.length) (h : ∀ j, j < k → wayAt s xs ys j = true) : (ys.take k).Nodup ∧ ∀ y ∈ ys.take k, 0 ≤ y ∧ y ≤ s - 1 := by
  induction k with
  | zero => simp
  | succ k ih =>
    have ih := ih (by omega) (fun j hj => h j (by omega))
    have h1 := wayAt_parts (h k (by omega))
    have e : ys.getD k 0 = ys[k] := by simp [show k < ys.length by omega]
    rw [e] at h1
    rw [List.take_succ_eq_append_getElem (by omega)]
    refine ⟨List.nodup_append.2 ⟨ih.1, by simp, fun a ha b hb => ?_⟩, fun y hy => ?_⟩
    · rw [List.mem_singleton] at hb
      subst hb
      exact fun e => h1.2 (e ▸ ha)
    · rw [List.mem_append, List.mem_singleton] at hy
      rcases hy with hy | rfl
      · exact ih.2 y hy
      · exact h1.1
theorem wayB_len {s : Int} {xs ys : List Int} (h : wayB s xs ys = true) : (ys.length : Int) ≤ s := by
  unfold wayB at h
  rw [Bool.and_eq_true] at h
  have h0 := (tourB_true.1 h.1).1
  have hn := way_nodup (Nat.le_refl _) (wayK_true.1 h.2)
  rw [List.take_length] at hn
  obtain ⟨n, rfl⟩ := Int.eq_ofNat_of_zero_le (by omega : 0 ≤ s)
  have := nodup_le n ys hn.1 (fun y hy => by have := hn.2 y hy; omega)
  omega
theorem wayB_long {s : Int} {xs ys : List Int} (h : s < (ys.length : Int)) : wayB s xs ys = false := by
  rcases hq : wayB s xs ys with _ | _
  · rfl
  · have := wayB_len hq; omega
end Go.Proofs.Ytajeledbmnndmaa

namespace Go.Proofs.Ytajeledbmnndmaa
open Go.RowKit Go.Sort
set_option maxRecDepth 100000

def ordAt (ns : List Int) (i : Nat) : Bool := inB (ns.getD i 0) 0 ((ns.length : Int) - 1) && !(containsI (ns.take i) (ns.getD i 0))
noncomputable def permB (n : Nat) (ns : List Int) : Bool := @decide (PermP n ns) (Classical.propDecidable _)
theorem permB_true {n : Nat} {ns : List Int} : permB n ns = true ↔ PermP n ns := by unfold permB; simp
theorem permB_false {n : Nat} {ns : List Int} : permB n ns = false ↔ ¬ PermP n ns := by rw [← permB_true]; simp
theorem getD_take_ {ns : List Int} {i j : Nat} (h : j < i) : (ns.take i).getD j 0 = ns.getD j 0 := by
  simp [List.getD_eq_getElem?_getD, List.getElem?_take, h]
theorem ord_no {ns : List Int} {k : Nat} (hk : k < ns.length) (h : ordAt ns k = false) : permB ns.length ns = false := permB_false.2 fun hp => by
  have h1 := hp.2.1 _ (getD_mem' hk)
  have h2 : inB (ns.getD k 0) 0 ((ns.length : Int) - 1) = true := inB_true.2 (by omega)
  have h3 : containsI (ns.take k) (ns.getD k 0) = false := by
    unfold containsI
    rw [decide_eq_false_iff_not]
    intro hm
    obtain ⟨j, hj, e⟩ := List.mem_iff_getElem.1 hm
    rw [List.length_take] at hj
    rw [List.getElem_take] at e
    rw [show ns.getD k 0 = ns[k] by simp [hk]] at e
    exact List.pairwise_iff_getElem.1 hp.2.2 j k (by omega) hk (by omega) e
  rw [ordAt, h2, h3] at h
  simp at h
theorem ord_yes {ns : List Int} (h : ∀ k, k < ns.length → ordAt ns k = true) : permB ns.length ns = true := permB_true.2 <| by
  have hA : ∀ k, k < ns.length → (0 ≤ ns.getD k 0 ∧ ns.getD k 0 ≤ (ns.length : Int) - 1) ∧ ns.getD k 0 ∉ ns.take k := fun k hk => by
    have := h k hk
    unfold ordAt at this
    rw [Bool.and_eq_true, inB_true] at this
    refine ⟨this.1, ?_⟩
    have := this.2
    unfold containsI at this
    simpa using this
  refine ⟨rfl, fun x hx => ?_, ?_⟩
  · obtain ⟨k, hk, rfl⟩ := List.mem_iff_getElem.1 hx
    have := (hA k hk).1
    rw [show ns.getD k 0 = ns[k] by simp [hk]] at this
    omega
  · rw [List.Nodup, List.pairwise_iff_getElem]
    intro i j hi hj hij e
    refine (hA j hj).2 ?_
    rw [show ns.getD j 0 = ns[j] by simp [hj], ← e]
    rw [List.mem_iff_getElem]
    exact ⟨i, by rw [List.length_take]; omega, by rw [List.getElem_take]⟩
set_option maxHeartbeats 2000000 in
theorem isOrder_any (nv : Value) (ns : List Int) (w : World) (h : Rd w nv ns) (hl : ns.length ≤ 1099511627776) :
    Calls Try.prog 83 #[nv] w fun e w' => e = .returned (.bool (permB ns.length ns)) ∧ Below w.heap.size w w' := by
  have HR := Lib.hid h
  obtain ⟨B, d, rfl, hl2, hm2, hc2⟩ := h
  unfold maxLen at hm2
  have HC := Lib.hid hc2
  clear hc2
  have HNO := Lib.hid (fun (k : Nat) (hk : k < ns.length) (hq : ordAt ns k = false) => ord_no hk hq)
  have HYES := Lib.hid (fun (hq : ∀ k, k < ns.length → ordAt ns k = true) => ord_yes hq)
  have HAT : Hid (∀ k, ordAt ns k = (inB (ns.getD k 0) 0 ((ns.length : Int) - 1) && !(containsI (ns.take k) (ns.getD k 0)))) := fun _ => rfl
  generalize hn : ns.length = n at *
  have HN := Lib.hid hn
  clear hn
  go_enter Try.func83, Try.ntmps83
  go_wp2
  go_loopw [7] (fun i wr => ∃ k : Nat, k ≤ n ∧ i = .int .i64 k ∧ Hid (∀ j, j < k → ordAt ns j = true) ∧ Below w.heap.size w wr) (fun i _ => n - (intOf i).toNat)
  case atStart => exact ⟨0, by omega, rfl, fun _ h => absurd h (by omega), Below.refl _ _⟩
  case round =>
    obtain ⟨k, hk, rfl, HP, hb⟩ := hrel
    have HB := Lib.hid hb
    clear hb
    by_cases hlt : k < n
    · obtain ⟨g, off, rfl, hg, hy⟩ := HC.out (by omega)
      have hyk := (HB.out.cell (p := ⟨g, off + k, none⟩) hg).trans (hy k hlt)
      have HA := Lib.hid (HAT.out k)
      have hT := Lib.hid ((HR.out.below HB.out).take_ k (by rw [HN.out]; omega))
      have HNK := Lib.hid (HNO.out k hlt)
      clear hy
      generalize hz : ns.getD k 0 = y at *
      clear hz
      rcases q1 : inB y 0 ((n : Int) - 1) with _ | _
      · go_wp2_with fail
        refine (within_any _ _ _ _).mono ?_
        rintro e wz ⟨rfl, rfl⟩
        rw [q1]
        go_wp2
        go_ret
        exact ⟨ret_bool (HNK.out (by rw [HA.out, q1]; rfl)).symm, HB.out⟩
      · rcases q2 : containsI (ns.take k) y with _ | _
        · go_wp2_with fail
          refine (within_any _ _ _ _).mono ?_
          rintro e wz ⟨rfl, rfl⟩
          rw [q1]
          go_wp2_with fail
          refine (contains_any _ (ns.take k) y _ hT.out).mono ?_
          rintro e wz ⟨rfl, rfl⟩
          rw [q2]
          go_wp2
          go_roundw
          case rel => exact ⟨k + 1, by omega, by go_num, fun j hj => by
            by_cases hjk : j < k
            · exact HP.out j hjk
            · obtain rfl : j = k := by omega
              rw [HA.out, q1, q2]; rfl, HB.out⟩
          case measure => simp [intOf]; omega
        · go_wp2_with fail
          refine (within_any _ _ _ _).mono ?_
          rintro e wz ⟨rfl, rfl⟩
          rw [q1]
          go_wp2_with fail
          refine (contains_any _ (ns.take k) y _ hT.out).mono ?_
          rintro e wz ⟨rfl, rfl⟩
          rw [q2]
          go_wp2
          go_ret
          exact ⟨ret_bool (HNK.out (by rw [HA.out, q1, q2]; rfl)).symm, HB.out⟩
    · obtain rfl : k = n := by omega
      go_wp2
      go_ret
      exact ⟨ret_bool (HYES.out HP.out).symm, HB.out⟩
end Go.Proofs.Ytajeledbmnndmaa

namespace Go.Proofs.Ytajeledbmnndmaa
open Go.RowKit Go.Sort
set_option maxRecDepth 100000
end Go.Proofs.Ytajeledbmnndmaa

namespace Go.Proofs.Ytajeledbmnndmaa
open Go.RowKit Go.Sort
set_option maxRecDepth 100000

noncomputable def rnOk (s : Int) (xs ns : List Int) : Bool := tourB s xs && permB xs.length ns
noncomputable def rnS (s : Int) (xs ns : List Int) : Int := if rnOk s xs ns = true then s else 0
noncomputable def rnR (s : Int) (xs ns : List Int) : List Int := if rnOk s xs ns = true then rnL xs ns else []
theorem rn_no {s : Int} {xs ns : List Int} (h : rnOk s xs ns = false) : rnS s xs ns = 0 ∧ rnR s xs ns = [] := by simp [rnS, rnR, h]
theorem rn_yes {s : Int} {xs ns : List Int} (h : rnOk s xs ns = true) : rnS s xs ns = s ∧ rnR s xs ns = rnL xs ns := by simp [rnS, rnR, h]
theorem perm_len_ {n : Nat} {ns : List Int} (h : ns.length ≠ n) : permB n ns = false := permB_false.2 fun hp => h hp.1
noncomputable def symB (s : Int) (xs ns : List Int) : Bool := rnOk s xs ns && decide (xs = rnL xs ns)
set_option maxHeartbeats 1000000 in
theorem implRename (s : Int) (sl : Value) (xs : List Int) (nv : Value) (ns : List Int) (w : World) (h : Rd w sl xs) (h2 : Rd w nv ns) (hl : ns.length ≤ 1099511627776) :
    Calls Try.prog 27 #[.agg #[.int .i64 s, sl], nv] w fun e w' => ∃ sl', e = .returned (.tuple #[.agg #[.int .i64 (rnS s xs ns), sl'], .bool (rnOk s xs ns)]) ∧ Own w' w.heap.size sl' (rnR s xs ns) ∧ Below w.heap.size w w' := by
  have HR := Lib.hid h
  have HW := Lib.hid h2
  obtain ⟨A, c, rfl, -, -, -⟩ := h
  obtain ⟨B, d, rfl, -, hdm, -⟩ := h2
  unfold maxLen at hdm
  rcases q0 : tourB s xs with _ | _
  case false =>
    go_enter Try.func27, Try.ntmps27
    go_wp2_with fail
    have b0 := (below_alloc1 w (.cells #[.int .i64 s, .slice A xs.length c] 28)).alloc (by simp) (.cells #[.int .i64 0, .slice none 0 0] 28)
    have x0 := (TBox.new w s (.slice A xs.length c) 28).below (below_alloc1 _ (.cells #[.int .i64 0, .slice none 0 0] 28))
    have t0 := BoxF.new (w.alloc (.cells #[.int .i64 s, .slice A xs.length c] 28)) 0 (.slice none 0 0) 28
    simp only [World.size_alloc] at t0
    generalize (w.alloc (.cells #[.int .i64 s, .slice A xs.length c] 28)).alloc (.cells #[.int .i64 0, .slice none 0 0] 28) = w0 at *
    have HX0 := Lib.hid x0
    have HB0 := Lib.hid b0
    have HT0 := Lib.hid t0
    clear x0 b0 t0
    have y0_0 := HX0.out.1
    have y1_0 := HX0.out.2
    go_wp2_with fail
    refine (implTourOk s _ xs _ (HR.out.below HB0.out)).mono ?_
    rintro e w1 ⟨rfl, hb⟩
    have HX1 := Lib.hid (HX0.out.below hb)
    have HT1 := Lib.hid (HT0.out.below hb)
    have HB1 := Lib.hid (Below.then HB0.out hb)
    clear hb HX0 HT0 HB0 y0_0 y1_0
    have y0_1 := HX1.out.1
    have y1_1 := HX1.out.2
    rw [q0]
    have v0 := HT1.out.1.1
    have v1 := HT1.out.1.2
    have f0 := HT1.out.2 0
    have f1 := HT1.out.2 1
    have HBx := Lib.hid ((HB1.out.setCell (p := ⟨w.heap.size + 1, 0, none⟩) (by simp) (.int .i64 0)).setCell (p := ⟨w.heap.size + 1, 1, none⟩) (by simp) (.slice none 0 0))
    have R0 : Hid (((w1.setCell ⟨w.heap.size + 1, 0, none⟩ (.int .i64 0)).setCell ⟨w.heap.size + 1, 1, none⟩ (.slice none 0 0)).cell? ⟨w.heap.size + 1, 0, none⟩ = some (.int .i64 0)) := (World.cell?_setCell_other _ _ _ _ (by simp)).trans (World.cell?_setCell_same _ _ _ v0)
    have R1 : Hid (((w1.setCell ⟨w.heap.size + 1, 0, none⟩ (.int .i64 0)).setCell ⟨w.heap.size + 1, 1, none⟩ (.slice none 0 0)).cell? ⟨w.heap.size + 1, 1, none⟩ = some (.slice none 0 0)) := World.cell?_setCell_same _ _ _ ((World.cell?_setCell_other _ _ _ _ (by simp)).trans v1)
    go_wp2
    have r0 := R0.out
    have r1 := R1.out
    have hno : rnOk s xs ns = false := by first | (simp [rnOk, q0]; done) | (rw [rnOk, perm_len_ (by have := hl2.out; simp at q1; omega)]; simp; done) | (rw [rnOk, ← hle.out, q2]; simp; done)
    refine bodyPost_ret (v := .tuple #[.agg #[.int .i64 0, .slice none 0 0], .bool false]) (by simp only [results, Try.results27]; simp [go_sem, r0, r1]) rfl ⟨_, by rw [(rn_no hno).1, hno], by rw [(rn_no hno).2]; exact Own.nil_ _ _, HBx.out⟩
  have hp := tourB_true.1 q0
  have hs := hp.1
  have hl2 := Lib.hid hp.2.1
  rcases q1 : ((ns.length : Int) != s) with _ | _
  case true =>
    go_enter Try.func27, Try.ntmps27
    go_wp2_with fail
    have b0 := (below_alloc1 w (.cells #[.int .i64 s, .slice A xs.length c] 28)).alloc (by simp) (.cells #[.int .i64 0, .slice none 0 0] 28)
    have x0 := (TBox.new w s (.slice A xs.length c) 28).below (below_alloc1 _ (.cells #[.int .i64 0, .slice none 0 0] 28))
    have t0 := BoxF.new (w.alloc (.cells #[.int .i64 s, .slice A xs.length c] 28)) 0 (.slice none 0 0) 28
    simp only [World.size_alloc] at t0
    generalize (w.alloc (.cells #[.int .i64 s, .slice A xs.length c] 28)).alloc (.cells #[.int .i64 0, .slice none 0 0] 28) = w0 at *
    have HX0 := Lib.hid x0
    have HB0 := Lib.hid b0
    have HT0 := Lib.hid t0
    clear x0 b0 t0
    have y0_0 := HX0.out.1
    have y1_0 := HX0.out.2
    go_wp2_with fail
    refine (implTourOk s _ xs _ (HR.out.below HB0.out)).mono ?_
    rintro e w1 ⟨rfl, hb⟩
    have HX1 := Lib.hid (HX0.out.below hb)
    have HT1 := Lib.hid (HT0.out.below hb)
    have HB1 := Lib.hid (Below.then HB0.out hb)
    clear hb HX0 HT0 HB0 y0_0 y1_0
    have y0_1 := HX1.out.1
    have y1_1 := HX1.out.2
    rw [q0]
    have v0 := HT1.out.1.1
    have v1 := HT1.out.1.2
    have f0 := HT1.out.2 0
    have f1 := HT1.out.2 1
    have HBx := Lib.hid ((HB1.out.setCell (p := ⟨w.heap.size + 1, 0, none⟩) (by simp) (.int .i64 0)).setCell (p := ⟨w.heap.size + 1, 1, none⟩) (by simp) (.slice none 0 0))
    have R0 : Hid (((w1.setCell ⟨w.heap.size + 1, 0, none⟩ (.int .i64 0)).setCell ⟨w.heap.size + 1, 1, none⟩ (.slice none 0 0)).cell? ⟨w.heap.size + 1, 0, none⟩ = some (.int .i64 0)) := (World.cell?_setCell_other _ _ _ _ (by simp)).trans (World.cell?_setCell_same _ _ _ v0)
    have R1 : Hid (((w1.setCell ⟨w.heap.size + 1, 0, none⟩ (.int .i64 0)).setCell ⟨w.heap.size + 1, 1, none⟩ (.slice none 0 0)).cell? ⟨w.heap.size + 1, 1, none⟩ = some (.slice none 0 0)) := World.cell?_setCell_same _ _ _ ((World.cell?_setCell_other _ _ _ _ (by simp)).trans v1)
    go_wp2
    have r0 := R0.out
    have r1 := R1.out
    have hno : rnOk s xs ns = false := by first | (simp [rnOk, q0]; done) | (rw [rnOk, perm_len_ (by have := hl2.out; simp at q1; omega)]; simp; done) | (rw [rnOk, ← hle.out, q2]; simp; done)
    refine bodyPost_ret (v := .tuple #[.agg #[.int .i64 0, .slice none 0 0], .bool false]) (by simp only [results, Try.results27]; simp [go_sem, r0, r1]) rfl ⟨_, by rw [(rn_no hno).1, hno], by rw [(rn_no hno).2]; exact Own.nil_ _ _, HBx.out⟩
  have hle : Hid (ns.length = xs.length) := by have := hl2.out; simp at q1; unfold Hid; omega
  rcases q2 : permB ns.length ns with _ | _
  case false =>
    go_enter Try.func27, Try.ntmps27
    go_wp2_with fail
    have b0 := (below_alloc1 w (.cells #[.int .i64 s, .slice A xs.length c] 28)).alloc (by simp) (.cells #[.int .i64 0, .slice none 0 0] 28)
    have x0 := (TBox.new w s (.slice A xs.length c) 28).below (below_alloc1 _ (.cells #[.int .i64 0, .slice none 0 0] 28))
    have t0 := BoxF.new (w.alloc (.cells #[.int .i64 s, .slice A xs.length c] 28)) 0 (.slice none 0 0) 28
    simp only [World.size_alloc] at t0
    generalize (w.alloc (.cells #[.int .i64 s, .slice A xs.length c] 28)).alloc (.cells #[.int .i64 0, .slice none 0 0] 28) = w0 at *
    have HX0 := Lib.hid x0
    have HB0 := Lib.hid b0
    have HT0 := Lib.hid t0
    clear x0 b0 t0
    have y0_0 := HX0.out.1
    have y1_0 := HX0.out.2
    go_wp2_with fail
    refine (implTourOk s _ xs _ (HR.out.below HB0.out)).mono ?_
    rintro e w1 ⟨rfl, hb⟩
    have HX1 := Lib.hid (HX0.out.below hb)
    have HT1 := Lib.hid (HT0.out.below hb)
    have HB1 := Lib.hid (Below.then HB0.out hb)
    clear hb HX0 HT0 HB0 y0_0 y1_0
    have y0_1 := HX1.out.1
    have y1_1 := HX1.out.2
    rw [q0]
    go_wp2_with fail
    refine (isOrder_any _ ns _ (HW.out.below HB1.out) hl).mono ?_
    rintro e w2 ⟨rfl, hb⟩
    have HX2 := Lib.hid (HX1.out.below hb)
    have HT2 := Lib.hid (HT1.out.below hb)
    have HB2 := Lib.hid (Below.then HB1.out hb)
    clear hb HX1 HT1 HB1 y0_1 y1_1
    have y0_2 := HX2.out.1
    have y1_2 := HX2.out.2
    rw [q2]
    have v0 := HT2.out.1.1
    have v1 := HT2.out.1.2
    have f0 := HT2.out.2 0
    have f1 := HT2.out.2 1
    have HBx := Lib.hid ((HB2.out.setCell (p := ⟨w.heap.size + 1, 0, none⟩) (by simp) (.int .i64 0)).setCell (p := ⟨w.heap.size + 1, 1, none⟩) (by simp) (.slice none 0 0))
    have R0 : Hid (((w2.setCell ⟨w.heap.size + 1, 0, none⟩ (.int .i64 0)).setCell ⟨w.heap.size + 1, 1, none⟩ (.slice none 0 0)).cell? ⟨w.heap.size + 1, 0, none⟩ = some (.int .i64 0)) := (World.cell?_setCell_other _ _ _ _ (by simp)).trans (World.cell?_setCell_same _ _ _ v0)
    have R1 : Hid (((w2.setCell ⟨w.heap.size + 1, 0, none⟩ (.int .i64 0)).setCell ⟨w.heap.size + 1, 1, none⟩ (.slice none 0 0)).cell? ⟨w.heap.size + 1, 1, none⟩ = some (.slice none 0 0)) := World.cell?_setCell_same _ _ _ ((World.cell?_setCell_other _ _ _ _ (by simp)).trans v1)
    go_wp2
    have r0 := R0.out
    have r1 := R1.out
    have hno : rnOk s xs ns = false := by first | (simp [rnOk, q0]; done) | (rw [rnOk, perm_len_ (by have := hl2.out; simp at q1; omega)]; simp; done) | (rw [rnOk, ← hle.out, q2]; simp; done)
    refine bodyPost_ret (v := .tuple #[.agg #[.int .i64 0, .slice none 0 0], .bool false]) (by simp only [results, Try.results27]; simp [go_sem, r0, r1]) rfl ⟨_, by rw [(rn_no hno).1, hno], by rw [(rn_no hno).2]; exact Own.nil_ _ _, HBx.out⟩
  have hyes : rnOk s xs ns = true := by rw [rnOk, ← hle.out, q2, q0]; rfl
  have he := rn_yes hyes
  have hPP := permB_true.1 q2
  rw [hle.out] at hPP
  rw [he.1, he.2, hyes]
  go_enter Try.func27, Try.ntmps27
  go_wp2_with fail
  have b0 := (below_alloc1 w (.cells #[.int .i64 s, .slice A xs.length c] 28)).alloc (by simp) (.cells #[.int .i64 0, .slice none 0 0] 28)
  have x0 := (TBox.new w s (.slice A xs.length c) 28).below (below_alloc1 _ (.cells #[.int .i64 0, .slice none 0 0] 28))
  have t0 := BoxF.new (w.alloc (.cells #[.int .i64 s, .slice A xs.length c] 28)) 0 (.slice none 0 0) 28
  simp only [World.size_alloc] at t0
  generalize (w.alloc (.cells #[.int .i64 s, .slice A xs.length c] 28)).alloc (.cells #[.int .i64 0, .slice none 0 0] 28) = w0 at *
  have HX0 := Lib.hid x0
  have HB0 := Lib.hid b0
  have HT0 := Lib.hid t0
  clear x0 b0 t0
  have y0_0 := HX0.out.1
  have y1_0 := HX0.out.2
  go_wp2_with fail
  refine (implTourOk s _ xs _ (HR.out.below HB0.out)).mono ?_
  rintro e w1 ⟨rfl, hb⟩
  have HX1 := Lib.hid (HX0.out.below hb)
  have HT1 := Lib.hid (HT0.out.below hb)
  have HB1 := Lib.hid (Below.then HB0.out hb)
  clear hb HX0 HT0 HB0 y0_0 y1_0
  have y0_1 := HX1.out.1
  have y1_1 := HX1.out.2
  rw [q0]
  go_wp2_with fail
  refine (isOrder_any _ ns _ (HW.out.below HB1.out) hl).mono ?_
  rintro e w2 ⟨rfl, hb⟩
  have HX2 := Lib.hid (HX1.out.below hb)
  have HT2 := Lib.hid (HT1.out.below hb)
  have HB2 := Lib.hid (Below.then HB1.out hb)
  clear hb HX1 HT1 HB1 y0_1 y1_1
  have y0_2 := HX2.out.1
  have y1_2 := HX2.out.2
  rw [q2]
  go_wp2_with fail
  refine (renamed_any s _ xs ns _ _ (HR.out.below HB2.out) hp (HW.out.below HB2.out) hPP).mono ?_
  rintro e w4 ⟨sl', rfl, ho, hF, hb4⟩
  obtain ⟨Y, cy, rfl, -, -, -⟩ := ho.form
  have HT4 := HT2.out.below hb4
  have HB4 := Below.then HB2.out hb4
  have v0 := HT4.1.1
  have v1 := HT4.1.2
  have f0 := HT4.2 0
  have f1 := HT4.2 1
  clear hF
  have hgt := (HT4).gt
  have HOx := Lib.hid ((ho.kept (setCell_grown _ ⟨w.heap.size + 1, 0, none⟩ (.int .i64 s)) (own_ne (fun k hk => (ho.lt k hk).1) (by first | exact (HT1.out).gt | exact (HT0.out).gt | exact (HT2.out).gt | exact (HT3.out).gt | exact (HT4.out).gt | (simp; omega)))).kept (setCell_grown _ ⟨w.heap.size + 1, 1, none⟩ (.slice Y (rnL xs ns).length cy)) (own_ne (fun k hk => (ho.lt k hk).1) (by first | exact (HT1.out).gt | exact (HT0.out).gt | exact (HT2.out).gt | exact (HT3.out).gt | exact (HT4.out).gt | (simp; omega))))
  have HBx := Lib.hid ((HB4.setCell (p := ⟨w.heap.size + 1, 0, none⟩) (by simp) (.int .i64 s)).setCell (p := ⟨w.heap.size + 1, 1, none⟩) (by simp) (.slice Y (rnL xs ns).length cy))
  have R0 : Hid (((w4.setCell ⟨w.heap.size + 1, 0, none⟩ (.int .i64 s)).setCell ⟨w.heap.size + 1, 1, none⟩ (.slice Y (rnL xs ns).length cy)).cell? ⟨w.heap.size + 1, 0, none⟩ = some (.int .i64 s)) := (World.cell?_setCell_other _ _ _ _ (by simp)).trans (World.cell?_setCell_same _ _ _ v0)
  have R1 : Hid (((w4.setCell ⟨w.heap.size + 1, 0, none⟩ (.int .i64 s)).setCell ⟨w.heap.size + 1, 1, none⟩ (.slice Y (rnL xs ns).length cy)).cell? ⟨w.heap.size + 1, 1, none⟩ = some (.slice Y (rnL xs ns).length cy)) := World.cell?_setCell_same _ _ _ ((World.cell?_setCell_other _ _ _ _ (by simp)).trans v1)
  go_wp2
  have r0 := R0.out
  have r1 := R1.out
  refine bodyPost_ret (v := .tuple #[.agg #[.int .i64 s, .slice Y (rnL xs ns).length cy], .bool true]) (by simp only [results, Try.results27]; simp [go_sem, r0, r1]) rfl ⟨_, rfl, HOx.out.mono (by first | exact HB0.out.size | exact HB1.out.size | exact HB2.out.size | exact HB3.out.size | exact HB4.out.size), HBx.out⟩
end Go.Proofs.Ytajeledbmnndmaa

namespace Go.Proofs.Ytajeledbmnndmaa
open Go.RowKit Go.Sort
set_option maxRecDepth 100000
theorem rnR_len (s : Int) (xs ns : List Int) (h : rnOk s xs ns = true) : 1 ≤ s := by
  unfold rnOk at h
  rw [Bool.and_eq_true] at h
  exact (tourB_true.1 h.1).1.1
end Go.Proofs.Ytajeledbmnndmaa

namespace Go.Proofs.Ytajeledbmnndmaa
open Go.RowKit Go.Sort
set_option maxRecDepth 100000
section
variable {md : Region.Mode} {ops : Array Oper}
def lxPairs (md : Region.Mode) (ops : Array Oper) (k : Nat) (o : Oper) (rest : List Oper) : Bool :=
  rest.all fun oj => oj.after.toList.any (fun e => Region.binds md e && e.on == k) || o.apart ops oj
def lxOk (md : Region.Mode) (ops : Array Oper) : List Oper → Nat → Bool
  | [], _ => true
  | o :: rest, k => (o.after.toList.all fun e => !Region.binds md e || decide (e.on < k)) && lxPairs md ops k o rest && lxOk md ops rest (k + 1)
theorem lexFrom_of : ∀ (l : List Oper) (k : Nat) (listed : Array Bool), (∀ j, l[j]? = ops[k + j]?) → listed.size = ops.size → (∀ j, j < k → j < ops.size → listed.getD j false = true) →
    (∀ j, k ≤ j → j < ops.size → listed.getD j true = false) → lxOk md ops l k = true → Region.lexFrom md ops l.length k listed = true := by
  intro l
  induction l with
  | nil =>
    intro k listed hl hs hlt _ _
    have hk : ops.size ≤ k := by
      have := (hl 0).symm
      simp only [List.getElem?_nil, Nat.add_zero] at this
      exact Array.getElem?_eq_none_iff.1 this
    show (Region.ready md ops listed).isEmpty = true
    rw [List.isEmpty_iff, List.eq_nil_iff_forall_not_mem]
    intro i hi
    obtain ⟨h1, o, ho, -⟩ := mem_ready.1 hi
    have hi2 : i < ops.size := (Array.getElem?_eq_some_iff.1 ho).1
    have h2 := hlt i (by omega) hi2
    have hi3 : i < listed.size := by omega
    simp [hi3] at h1 h2
    rw [h1] at h2
    cases h2
  | cons o rest ih =>
    intro k listed hl hs hlt hge hB
    simp only [lxOk, Bool.and_eq_true] at hB
    obtain ⟨⟨hA, hP⟩, hR⟩ := hB
    have h0 : ops[k]? = some o := by simpa using (hl 0).symm
    have hk : k < ops.size := (Array.getElem?_eq_some_iff.1 h0).1
    show ((Region.ready md ops listed).contains k && Region.free md ops listed k && Region.lexFrom md ops rest.length (k + 1) (listed.setIfInBounds k true)) = true
    rw [Bool.and_eq_true, Bool.and_eq_true]
    refine ⟨⟨?_, ?_⟩, ?_⟩
    · rw [List.contains_iff_mem]
      refine mem_ready.2 ⟨hge k (Nat.le_refl _) hk, o, h0, fun e he hb => ?_⟩
      have h1 := List.all_eq_true.1 hA e (by simpa using he)
      rw [hb] at h1
      simp only [Bool.not_true, Bool.false_or, decide_eq_true_eq] at h1
      exact hlt e.on h1 (by omega)
    · unfold Region.free
      rw [h0]
      simp only [List.all_eq_true, List.mem_range]
      intro j hj
      rw [Bool.or_eq_true, Bool.or_eq_true]
      rcases Nat.lt_trichotomy j k with h | h | h
      · left; right
        have h2 := hlt j h hj
        have hj3 : j < listed.size := by omega
        simp [hj3] at h2 ⊢
        exact h2
      · left; left; simp [h]
      · right
        have hj2 : ops[j]? = some ops[j] := by simp [hj]
        rw [hj2]
        have h3 : rest[j - k - 1]? = some ops[j] := by
          have := hl (j - k)
          rw [show k + (j - k) = j by omega, hj2, show j - k = (j - k - 1) + 1 by omega] at this
          simpa using this
        have h4 := List.all_eq_true.1 hP _ (List.mem_of_getElem? h3)
        rw [Bool.or_eq_true] at h4 ⊢
        rcases h4 with h4 | h4
        · left
          obtain ⟨e, he, hb⟩ := List.any_eq_true.1 h4
          exact Array.any_eq_true'.2 ⟨e, by simpa using he, hb⟩
        · exact .inr h4
    · refine ih (k + 1) _ (fun j => by have := hl (j + 1); simpa [Nat.add_assoc, Nat.add_comm 1 j] using this) (by simp [hs]) (fun j hj hj2 => ?_) (fun j hj hj2 => ?_) hR
      · rcases Nat.lt_or_ge j k with h | h
        · have h2 := hlt j h hj2
          have hj3 : j < listed.size := by omega
          simp [hj3] at h2 ⊢
          rw [Array.getElem_setIfInBounds]
          split
          · rfl
          · exact h2
        · obtain rfl : j = k := by omega
          have hj3 : j < listed.size := by omega
          simp [hj3]
      · have h2 := hge j (by omega) hj2
        have hj3 : j < listed.size := by omega
        simp [hj3] at h2 ⊢
        rw [Array.getElem_setIfInBounds, if_neg (by omega)]
        exact h2
theorem lexB_cheap {l : List Oper} (hs : Region.noSelect l.toArray = true) (h : lxOk md l.toArray l 0 = true) : Region.lexB md l.toArray = true := by
  unfold Region.lexB
  rw [hs, Bool.true_and]
  have := lexFrom_of (md := md) (ops := l.toArray) l 0 (Array.replicate l.toArray.size false) (by simp) (by simp) (fun j hj => by omega) (fun j _ hj => by simp at hj; simp [hj]) h
  simpa using this
end
end Go.Proofs.Ytajeledbmnndmaa

namespace Go.Proofs.Ytajeledbmnndmaa
open Go.RowKit Go.Sort
set_option maxRecDepth 100000
theorem pow_lt_big {k : Nat} (h : k ≤ 50) : 2 ^ k ≤ 1125899906842624 := Nat.le_trans (Nat.pow_le_pow_right (by decide) h) (by decide)
theorem bit_num (W b : Nat) : bits .and .i64 ((W : Int) / 2 ^ b) 1 = ((W.testBit b).toNat : Int) := by
  rw [i64_and_one]
  have : (W : Int) / 2 ^ b % 2 = ((W / 2 ^ b % 2 : Nat) : Int) := by simp
  rw [this, Nat.testBit_eq_decide_div_mod_eq]
  rcases Nat.mod_two_eq_zero_or_one (W / 2 ^ b) with h | h <;> rw [h] <;> rfl
end Go.Proofs.Ytajeledbmnndmaa

namespace Go.Proofs.Ytajeledbmnndmaa
open Go.RowKit Go.Sort
set_option maxRecDepth 100000
/-- the pairs that are done at (a, b) -/
def donePair (a b x y : Nat) : Prop := (x < a ∨ y < a) ∨ (x = a ∧ y < b) ∨ (y = a ∧ x < b)
/-- the rows of a tour that is half made -/
def HalfT (n a b : Nat) (N : List Int) : Prop := N.length = n ∧ ∃ f : Nat → Nat → Bool,
  (∀ x y, f x y = true → x < n ∧ y < n ∧ x ≠ y ∧ donePair a b x y) ∧ (∀ x y, x < n → y < n → x ≠ y → donePair a b x y → f x y = !f y x) ∧ ∀ x, x < n → N.getD x 0 = ((setOf (f x) n : Nat) : Int)
theorem setOf_more {p q : Nat → Bool} {y : Nat} (h0 : p y = false) (h1 : q y = true) (h2 : ∀ z, z ≠ y → q z = p z) : ∀ {n : Nat}, y < n → setOf q n = setOf p n + 2 ^ y := by
  intro n
  induction n with
  | zero => intro h; omega
  | succ n ih =>
    intro h
    simp only [setOf]
    by_cases e : y = n
    · subst e
      rw [h0, h1, setOf_congr (q := p) (fun j hj => h2 j (by omega))]; simp
    · rw [ih (by omega), h2 n (Ne.symm e)]; omega
theorem HalfT.start (n : Nat) : HalfT n 0 1 (List.replicate n 0) := by
  refine ⟨by simp, fun _ _ => false, fun x y h => by simp at h, fun x y hx hy hxy h => ?_, fun x hx => ?_⟩
  · unfold donePair at h; omega
  · rw [setOf_congr (q := fun _ => false) (fun _ _ => rfl)]
    have : setOf (fun _ => false) n = 0 := by
      clear hx
      induction n with
      | zero => rfl
      | succ n ih => simp [setOf, ih]
    rw [this]; simp [hx]
theorem HalfT.row {n a : Nat} {N : List Int} (h : HalfT n a n N) : HalfT n (a + 1) (a + 2) N := by
  obtain ⟨hl, f, h1, h2, h3⟩ := h
  have e : ∀ x y, x < n → y < n → x ≠ y → (donePair a n x y ↔ donePair (a + 1) (a + 2) x y) := fun x y hx hy hxy => by unfold donePair; omega
  exact ⟨hl, f, fun x y h => ⟨(h1 x y h).1, (h1 x y h).2.1, (h1 x y h).2.2.1, (e x y (h1 x y h).1 (h1 x y h).2.1 (h1 x y h).2.2.1).1 (h1 x y h).2.2.2⟩, fun x y hx hy hxy h => h2 x y hx hy hxy ((e x y hx hy hxy).2 h), h3⟩
/-- one game: u beats v, where {u, v} = {a, b} -/
theorem HalfT.game {n a b u v : Nat} {N : List Int} (h : HalfT n a b N) (hab : a < b) (hb : b < n) (huv : (u = a ∧ v = b) ∨ (u = b ∧ v = a)) {X : Nat} (hX : N.getD u 0 = (X : Int)) : HalfT n a (b + 1) (N.set u ((X + 2 ^ v : Nat) : Int)) := by
  obtain ⟨hl, f, h1, h2, h3⟩ := h
  have n1 : f u v = false := by
    rcases e : f u v with _ | _
    · rfl
    · have := (h1 u v e).2.2.2; unfold donePair at this; omega
  have n2 : f v u = false := by
    rcases e : f v u with _ | _
    · rfl
    · have := (h1 v u e).2.2.2; unfold donePair at this; omega
  refine ⟨by simp [hl], fun x y => f x y || (x == u && y == v), fun x y h => ?_, fun x y hx hy hxy hd => ?_, fun x hx => ?_⟩
  · rw [Bool.or_eq_true, Bool.and_eq_true, beq_iff_eq, beq_iff_eq] at h
    rcases h with h | ⟨rfl, rfl⟩
    · obtain ⟨p1, p2, p3, p4⟩ := h1 x y h
      exact ⟨p1, p2, p3, by unfold donePair at p4 ⊢; omega⟩
    · exact ⟨by omega, by omega, by omega, by unfold donePair; omega⟩
  · by_cases e1 : x = u ∧ y = v
    · obtain ⟨rfl, rfl⟩ := e1
      have : (y == x) = false := by simp; omega
      simp [n1, n2, this]
    · by_cases e2 : x = v ∧ y = u
      · obtain ⟨rfl, rfl⟩ := e2
        have : (x == y) = false := by simp; omega
        simp [n1, n2, this]
      · have hd' : donePair a b x y := by unfold donePair at hd ⊢; omega
        have q1 : (x == u && y == v) = false := by
          rcases q : (x == u && y == v) with _ | _
          · rfl
          · simp at q; exact absurd q e1
        have q2 : (y == u && x == v) = false := by
          rcases q : (y == u && x == v) with _ | _
          · rfl
          · simp at q; exact absurd ⟨q.2, q.1⟩ e2
        simp only [q1, q2, Bool.or_false]
        exact h2 x y hx hy hxy hd'
  · by_cases e : x = u
    · subst e
      rw [show (N.set x ((X + 2 ^ v : Nat) : Int)).getD x 0 = ((X + 2 ^ v : Nat) : Int) by simp [List.getD_eq_getElem?_getD, show x < N.length by omega]]
      have e3 : setOf (f x) n = X := by have := h3 x hx; omega
      rw [setOf_more (p := f x) (y := v) n1 (by simp) (fun z hz => by simp [hz]) (by omega), e3]
    · rw [show (N.set u ((X + 2 ^ v : Nat) : Int)).getD x 0 = N.getD x 0 by simp [List.getD_eq_getElem?_getD, List.getElem?_set_ne (Ne.symm e)], h3 x hx]
      have : setOf (fun y => f x y || (x == u && y == v)) n = setOf (f x) n := setOf_congr fun j _ => by simp [e]
      rw [this]
theorem HalfT.lt {n a b : Nat} {N : List Int} (h : HalfT n a b N) {x : Nat} (hx : x < n) : ∃ X : Nat, N.getD x 0 = (X : Int) ∧ X < 2 ^ n := by
  obtain ⟨hl, f, h1, h2, h3⟩ := h
  exact ⟨_, h3 x hx, setOf_lt _ _⟩
theorem HalfT.tour {n b : Nat} {N : List Int} (h : HalfT n n b N) (h1 : 1 ≤ n) (h8 : n ≤ 8) : tourP n N := by
  obtain ⟨hl, f, q1, q2, q3⟩ := h
  have hb : ∀ x y, x < n → bt N x y = (decide (y < n) && f x y) := fun x y hx => by
    unfold bt winsN
    rw [q3 x hx, Int.toNat_natCast, testBit_setOf]
  refine tour_of_bits (by omega) (by omega) (fun i hi => ⟨_, q3 i (by omega), by rw [hl]; exact setOf_lt _ _⟩) (fun a ha => ?_) (fun a c ha hc hac => ?_)
  · rw [hb a a (by omega)]
    rcases e : f a a with _ | _
    · simp
    · exact absurd rfl (q1 a a e).2.2.1
  · rw [hb a c (by omega), hb c a (by omega), q2 a c (by omega) (by omega) hac (by unfold donePair; omega)]
    simp [show a < n by omega, show c < n by omega]
end Go.Proofs.Ytajeledbmnndmaa

