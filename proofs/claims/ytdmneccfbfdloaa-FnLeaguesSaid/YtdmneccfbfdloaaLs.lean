/- The helpers of the laws over slices of ints, by contract: eqIntS, toIntS. -/
import Derived.Test.YtdmneccfbfdloaaBase
namespace Go.Proofs.Ytdmneccfbfdloaa
open Go.RowKit

theorem eqIntS_true (xs ys : List Int) (h : xs.length = ys.length) (HP : ∀ j, j < xs.length → xs.getD j 0 = ys.getD j 0) : decide (xs = ys) = true := by
  rw [decide_eq_true]
  apply List.ext_getElem h
  intro i h1 h2
  have := HP i h1
  simpa [h1, h2] using this

set_option maxHeartbeats 400000 in
theorem eqIntS_any (v1 v2 : Value) (xs ys : List Int) (w : World) (h1 : Rd w v1 xs) (h2 : Rd w v2 ys) :
    Calls Try.prog 10 #[v1, v2] w fun e w' => e = .returned (.bool (decide (xs = ys))) ∧ ∃ q, w' = w.drewN q := by
  obtain ⟨A, c, rfl, hl1, hm1, hc1⟩ := h1
  obtain ⟨B, d, rfl, hl2, hm2, hc2⟩ := h2
  unfold maxLen at hm1 hm2
  generalize hn : xs.length = n at *
  generalize hm : ys.length = m at *
  have H1 := Lib.hid hn
  have H2 := Lib.hid hm
  have H3 := Lib.hid hc1
  have H4 := Lib.hid hc2
  clear hn hm hc1 hc2
  by_cases hnm : n = m
  · subst hnm
    have hne : ((n : Int) != (n : Int)) = false := by simp
    go_enter Try.func10, Try.ntmps10
    go_wp2
    go_loopw [5] (fun i wr => ∃ k q : Nat, k ≤ n ∧ i = .int .i64 k ∧ wr = w.drewN q ∧ Hid (∀ j, j < k → xs.getD j 0 = ys.getD j 0)) (fun i _ => n - (intOf i).toNat)
    case atStart => exact ⟨0, 0, by omega, rfl, rfl, fun j hj => absurd hj (by omega)⟩
    case round =>
      obtain ⟨k, q, hk, rfl, rfl, HP⟩ := hrel
      by_cases hlt : k < n
      · obtain ⟨b, off, rfl, hb, hx⟩ := H3.out (by omega)
        obtain ⟨b', off', rfl, hb', hy⟩ := H4.out (by omega)
        have hxk := hx k hlt
        have hyk := hy k hlt
        clear hx hy
        go_wp2
        go_quiet (fail)
        go_wp2
        · have hne : (xs[k]?.getD 0 != ys[k]?.getD 0) = true := by assumption
          go_ret
          refine ⟨ret_bool ?_, q + nq, by simp⟩
          refine (decide_eq_false ?_).symm
          rintro rfl
          simp at hne
        · have hne : (xs[k]?.getD 0 != ys[k]?.getD 0) = false := by assumption
          go_roundw
          case rel =>
            refine ⟨k + 1, _, by omega, by go_num, rfl, fun j hj => ?_⟩
            by_cases hjk : j < k
            · exact HP.out j hjk
            · obtain rfl : j = k := by omega
              simpa using hne
          case measure => simp [intOf]; omega
      · have hge : ¬ ((k : Int) < (n : Int)) := by omega
        go_wp2
        go_ret
        refine ⟨ret_bool (eqIntS_true xs ys (by rw [H1.out, H2.out]) fun j hj => HP.out j (by have := H1.out; omega)).symm, q, rfl⟩
  · have hne : ((n : Int) != (m : Int)) = true := by simp; omega
    go_enter Try.func10, Try.ntmps10
    go_wp2
    go_ret
    refine ⟨ret_bool (decide_eq_false ?_).symm, 0, rfl⟩
    rintro rfl
    exact hnm (H1.out.symm.trans H2.out)

theorem eqIntS_refl (v1 v2 : Value) (xs : List Int) (w : World) (h1 : Rd w v1 xs) (h2 : Rd w v2 xs) :
    Calls Try.prog 10 #[v1, v2] w fun e w' => e = .returned (.bool true) ∧ ∃ q, w' = w.drewN q := by
  have := eqIntS_any v1 v2 xs xs w h1 h2
  rwa [decide_eq_true (rfl : xs = xs)] at this

theorem set_take (xs : List Int) (k : Nat) (hk : k < xs.length) : (xs.take k ++ List.replicate (xs.length - k) 0).set k (xs.getD k 0) = xs.take (k + 1) ++ List.replicate (xs.length - (k + 1)) 0 := by
  have hr : xs.length - k = (xs.length - (k + 1)) + 1 := by omega
  have hl : (xs.take k).length = k := by rw [List.length_take]; omega
  rw [List.set_append_right _ _ (by omega), hl, Nat.sub_self, hr, List.replicate_succ, List.set_cons_zero, List.take_succ_eq_append_getElem hk, List.append_assoc, List.singleton_append, show xs.getD k 0 = xs[k] by simp [hk]]

set_option maxHeartbeats 400000 in
theorem toIntS_any (v : Value) (xs : List Int) (w : World) (h : Rd w v xs) (hlen : xs.length ≤ 2097152) :
    Calls Try.prog 8 #[v] w fun e w' => ∃ v', e = .returned v' ∧ Own w' w.heap.size v' xs ∧ Below w.heap.size w w' := by
  obtain ⟨i0, hi, hz0, hz1, hz2⟩ := info_parts i64_info
  obtain ⟨A, c, rfl, hl1, hm1, hc1⟩ := h
  generalize hn : xs.length = n at *
  have H1 := Lib.hid hn
  have H3 := Lib.hid hc1
  clear hn hc1
  go_enter Try.func8, Try.ntmps8
  go_wp2_with (at_make; refine wpList_make_full _ rfl _ _ 22 rfl w.heap.size 3 i0 (.int .i64 0) 1 Try.underlying22 hi hz0 hz1 _ _ _ _ n rfl rfl rfl rfl (by rw [hz2]; omega) (by unfold maxLen; omega) (Nat.le_refl _) ?_; intro w1 hown hg1)
  have hb1 : Below w.heap.size w w1 := (Below.refl _ _).grown hg1 (Nat.le_refl _) (by simp)
  go_loopw [4] (fun i wr => ∃ k : Nat, k ≤ n ∧ i = .int .i64 k ∧ wr.ownsRow w.heap.size 3 1 (.slice (some ⟨w.heap.size, 0, none⟩) n n) n ((xs.take k ++ List.replicate (n - k) 0).map (Value.int .i64)) ∧ Below w.heap.size w wr) (fun i _ => n - (intOf i).toNat)
  case atStart => 
    refine ⟨0, Nat.zero_le _, rfl, ?_, hb1⟩
    have e : (madeCells (Value.int IntKind.i64 0).cells (n * 1)).toList = (xs.take 0 ++ List.replicate (n - 0) 0).map (Value.int .i64) := by
      have := toList_madeCells_one (.int .i64 0) (n * 1)
      simpa [Value.cells] using this
    rw [← e]; exact hown
  case round =>
    obtain ⟨k, hk, rfl, hwn, hb⟩ := hrel
    by_cases hlt : k < n
    · obtain ⟨b, off, rfl, hbb, hx⟩ := H3.out (by omega)
      have hxk : wr.cell? ⟨b, off + k, none⟩ = some (.int .i64 (xs.getD k 0)) := (hb.cell (by exact hbb)).trans (hx k hlt)
      have hck : wr.cell? ⟨w.heap.size, k, none⟩ = some (.int .i64 0) := by
        rw [World.ownsRow.cellAt hwn k (by omega)]
        simp [H1.out, hlt, hk]
      have hfk := World.ownsRow.frozenAt hwn k
      have S := World.ownsRow.stored hwn k (.int .i64 (xs.getD k 0))
      have hS : (wr.setCell ⟨w.heap.size, k, none⟩ (.int .i64 (xs.getD k 0))).ownsRow w.heap.size 3 1 (.slice (some ⟨w.heap.size, 0, none⟩) n n) n ((xs.take (k+1) ++ List.replicate (n - (k+1)) 0).map (Value.int .i64)) := by
        have e := set_take xs k (by have := H1.out; omega)
        rw [H1.out] at e
        rw [← e, List.map_set]
        exact S.1
      have HS := Lib.hid hS
      have hB' : Below w.heap.size w (wr.setCell ⟨w.heap.size, k, none⟩ (.int .i64 (xs.getD k 0))) := hb.setCell (Nat.le_refl _) _
      have HB := Lib.hid hB'
      clear hx S hS hB' hwn hb
      go_wp2
      go_roundw
      case rel => 
        rw [List.getD_eq_getElem?_getD] at HS HB
        exact ⟨k + 1, by omega, by go_num, HS.out, HB.out⟩
      case measure => simp [intOf]; omega
    · have hge : ¬ ((k : Int) < (n : Int)) := by omega
      go_wp2
      go_ret
      obtain rfl : k = n := by omega
      refine ⟨_, rfl, ?_, hb⟩
      unfold Own
      rw [H1.out]
      have e : xs.take k ++ List.replicate (k - k) 0 = xs := by rw [List.take_of_length_le (by rw [H1.out]; exact Nat.le_refl _)]; simp
      rw [e] at hwn
      exact hwn
end Go.Proofs.Ytdmneccfbfdloaa
