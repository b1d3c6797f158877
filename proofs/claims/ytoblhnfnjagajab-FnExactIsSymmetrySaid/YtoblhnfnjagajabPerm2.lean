/- l02Perm. -/
import Derived.Test.YtoblhnfnjagajabPerm
namespace Go.Proofs.Ytoblhnfnjagajab
open Go.RowKit Go.Sort
set_option maxRecDepth 100000
theorem bool_info : (Try.prog.info? 4).map (fun i => (i.zero, i.size, i.bytes)) = some (some (.bool false), 1, 1) := by kernel_rfl
/-- a slice of bools at a known block -/
def OwnB (w : World) (base g n : Nat) (bs : List Bool) : Prop := w.ownsRow base 4 1 (.slice (some ⟨g, 0, none⟩) n n) n (bs.map Value.bool) ∧ bs.length = n
theorem OwnB.cell {w : World} {base g n k : Nat} {bs : List Bool} (h : OwnB w base g n bs) (hk : k < n) : w.cell? ⟨g, k, none⟩ = some (.bool (bs.getD k false)) := by
  have := World.ownsRow.cells h.1 (g := g) rfl k (.bool (bs.getD k false)) (by have := h.2; simp [show k < bs.length by omega])
  simpa [Addr.add_lit] using this
theorem OwnB.frozen {w : World} {base g n : Nat} {bs : List Bool} (h : OwnB w base g n bs) (k : Nat) : w.frozen? ⟨g, k, none⟩ = false := World.ownsRow.frozenAt h.1 k
theorem OwnB.set_ {w : World} {base g n : Nat} {bs : List Bool} (h : OwnB w base g n bs) (k : Nat) (b : Bool) : OwnB (w.setCell ⟨g, k, none⟩ (.bool b)) base g n (bs.set k b) := by
  have := World.ownsRow.stored h.1 k (.bool b)
  refine ⟨?_, by rw [List.length_set]; exact h.2⟩
  rw [List.map_set]
  exact this.1
theorem bools_made (n : Nat) : (madeCells (Value.bool false).cells (n * 1)).toList = (List.replicate n false).map Value.bool := by
  have := toList_madeCells_one (.bool false) (n * 1)
  simpa [Value.cells] using this
theorem perm_len {n : Nat} {ns : List Int} (h : ns.length ≠ n) : permB n ns = false := permB_false.2 fun hp => h hp.1
set_option maxHeartbeats 2000000 in
theorem l02Perm_any (n : Nat) (hn8 : n ≤ 8) (nv : Value) (ns : List Int) (w : World) (h : Rd w nv ns) :
    Calls Try.prog 97 #[.int .i64 n, nv] w fun e w' => e = .returned (.bool (permB n ns)) ∧ Below w.heap.size w w' := by
  obtain ⟨i0, hi, hz0, hz1, hz2⟩ := info_parts bool_info
  obtain ⟨B, d, rfl, hl2, hm2, hc2⟩ := h
  unfold maxLen at hm2
  have HC := Lib.hid hc2
  clear hc2
  by_cases hln : ns.length = n
  · have HNO := Lib.hid (fun (k : Nat) (hk : k < ns.length) (hq : ordAt ns k = false) => ord_no hk hq)
    have HYES := Lib.hid (fun (hq : ∀ k, k < ns.length → ordAt ns k = true) => ord_yes hq)
    have HAT : Hid (∀ k, ordAt ns k = (inB (ns.getD k 0) 0 ((ns.length : Int) - 1) && !(containsI (ns.take k) (ns.getD k 0)))) := fun _ => rfl
    rw [hln] at HNO HYES HAT HC hl2 ⊢
    have HN := Lib.hid hln
    clear hln
    have hne : ((n : Int) != (n : Int)) = false := by simp
    go_enter Try.func97, Try.ntmps97
    go_wp2_with (at_make; refine wpList_make_full _ rfl _ _ 84 rfl w.heap.size 4 i0 (.bool false) 1 Try.underlying84 hi hz0 hz1 _ _ _ _ n rfl rfl rfl rfl (by rw [hz2]; omega) (by unfold maxLen; omega) (Nat.le_refl _) ?_; intro w1 hown hg1; have HB1 := Lib.hid ((Below.refl w.heap.size w).grown hg1 (Nat.le_refl _) (by simp)); have HOWN := Lib.hid hown; clear hown hg1)
    have HO1 : Hid (OwnB w1 w.heap.size w.heap.size n (List.replicate n false)) := by
      have ho := HOWN.out
      rw [bools_made] at ho
      exact ⟨ho, by simp⟩
    clear HOWN
    go_loopw [16] (fun i wr => ∃ (k : Nat) (bs : List Bool), k ≤ n ∧ i = .int .i64 k ∧ OwnB wr w.heap.size w.heap.size n bs ∧ Hid (∀ i, i < n → bs.getD i false = decide ((i : Int) ∈ ns.take k)) ∧ Hid (∀ j, j < k → ordAt ns j = true) ∧ Below w.heap.size w wr) (fun i _ => n - (intOf i).toNat)
    case atStart =>
      refine ⟨0, _, by omega, rfl, HO1.out, fun i hi => ?_, fun _ h => absurd h (by omega), HB1.out⟩
      simp [hi]
    case round =>
      obtain ⟨k, bs, hk, rfl, ho, HS, HP, hb⟩ := hrel
      have HB := Lib.hid hb
      have HO := Lib.hid ho
      clear hb ho
      by_cases hlt : k < n
      · obtain ⟨g, off, rfl, hg, hy⟩ := HC.out (by omega)
        have hyk := (HB.out.cell (p := ⟨g, off + k, none⟩) hg).trans (hy k hlt)
        have HA := Lib.hid (HAT.out k)
        have HNK := Lib.hid (HNO.out k hlt)
        have HTK : Hid (ns.take (k + 1) = ns.take k ++ [ns.getD k 0]) := by
          unfold Hid
          rw [List.take_succ_eq_append_getElem (by rw [HN.out]; exact hlt)]
          simp [show k < ns.length by rw [HN.out]; exact hlt]
        clear hy
        generalize hz : ns.getD k 0 = y at *
        clear hz
        rcases q1 : inB y 0 ((n : Int) - 1) with _ | _
        · go_wp2_with fail
          refine (l01In_any _ _ _ _).mono ?_
          rintro e wz ⟨rfl, rfl⟩
          rw [q1]
          go_wp2
          go_ret
          exact ⟨ret_bool (HNK.out (by rw [HA.out, q1]; rfl)).symm, HB.out⟩
        · have hyr := inB_true.1 q1
          obtain ⟨t, rfl⟩ := Int.eq_ofNat_of_zero_le hyr.1
          have htn : t < n := by omega
          have hst := HO.out.cell htn
          rw [HS.out t htn] at hst
          have hfz := HO.out.frozen t
          rcases q2 : containsI (ns.take k) (t : Int) with _ | _
          · have q3 : decide ((t : Int) ∈ ns.take k) = false := q2
            rw [q3] at hst
            go_wp2_with fail
            refine (l01In_any _ _ _ _).mono ?_
            rintro e wz ⟨rfl, rfl⟩
            rw [q1]
            have HO3 := Lib.hid (HO.out.set_ t true)
            have HB3 := Lib.hid (HB.out.setCell (p := ⟨w.heap.size, t, none⟩) (Nat.le_refl _) (.bool true))
            have hbl := HO.out.2
            go_wp2
            go_roundw
            case rel =>
              refine ⟨k + 1, _, by omega, by go_num, HO3.out, fun i hi => ?_, fun j hj => ?_, HB3.out⟩
              · rw [HTK.out]
                by_cases hit : t = i
                · subst hit
                  rw [List.getD_eq_getElem?_getD, List.getElem?_set]
                  simp [hbl, htn]
                · rw [List.getD_eq_getElem?_getD, List.getElem?_set, if_neg hit, ← List.getD_eq_getElem?_getD, HS.out i hi]
                  rw [decide_eq_decide, List.mem_append, List.mem_singleton]
                  constructor
                  · intro h; exact .inl h
                  · rintro (h | h)
                    · exact h
                    · omega
              · by_cases hjk : j < k
                · exact HP.out j hjk
                · obtain rfl : j = k := by omega
                  rw [HA.out, q1, q2]; rfl
            case measure => simp [intOf]; omega
          · have q3 : decide ((t : Int) ∈ ns.take k) = true := q2
            rw [q3] at hst
            go_wp2_with fail
            refine (l01In_any _ _ _ _).mono ?_
            rintro e wz ⟨rfl, rfl⟩
            rw [q1]
            go_wp2
            go_ret
            exact ⟨ret_bool (HNK.out (by rw [HA.out, q1, q2]; rfl)).symm, HB.out⟩
      · obtain rfl : n = k := by omega
        go_wp2
        go_ret
        exact ⟨ret_bool (HYES.out HP.out).symm, HB.out⟩
  · have hne : ((ns.length : Int) != (n : Int)) = true := by simp; omega
    rw [perm_len hln]
    go_enter Try.func97, Try.ntmps97
    go_wp2
    go_ret
    exact ⟨rfl, Below.refl _ _⟩
end Go.Proofs.Ytoblhnfnjagajab
