/- slices.Repeat of one number 1. -/
import Derived.Test.YtoblhnfnjagajaaTail
import Derived.Test.YtoblhnfnjagajaaApp
import Derived.Test.YtoblhnfnjagajaaBits
import Derived.Laws.CopyOwn
import Derived.Deep.RegionLaw
namespace Go.Proofs.Ytoblhnfnjagajaa
open Go.RowKit Go.Sort

theorem ints_made' (n : Nat) : (madeCells (Value.int IntKind.i64 0).cells (n * 1)).toList = (List.replicate n (0 : Int)).map (Value.int .i64) := by
  have := toList_madeCells_one (.int .i64 0) (n * 1)
  simpa [Value.cells] using this
theorem mul64_one (n : Nat) (h : n ≤ 8) (w : World) :
    Calls Try.prog 138 #[.int .u64 1, .int .u64 n] w fun e w' => e = .returned (.tuple #[.int .u64 0, .int .u64 n]) ∧ w = w' := by
  rcases (by omega : n = 0 ∨ n = 1 ∨ n = 2 ∨ n = 3 ∨ n = 4 ∨ n = 5 ∨ n = 6 ∨ n = 7 ∨ n = 8) with rfl | rfl | rfl | rfl | rfl | rfl | rfl | rfl | rfl
  all_goals
    go_enter Try.func138, Try.ntmps138
    go_wp2
    go_ret2
    exact ⟨rfl, rfl⟩
theorem mul_one_ (n : Nat) (h : n ≤ 8) (w : World) :
    Calls Try.prog 129 #[.int .u64 1, .int .u64 n] w fun e w' => e = .returned (.tuple #[.int .u64 0, .int .u64 n]) ∧ w = w' := by
  go_enter Try.func129, Try.ntmps129
  go_wp2_with fail
  refine (mul64_one n h _).mono ?_
  rintro e wz ⟨rfl, rfl⟩
  go_wp2
  go_ret2
  exact ⟨rfl, rfl⟩
/-- one ahead, zeros behind -/
def onesN (n k : Nat) : List Int := List.replicate k 1 ++ List.replicate (n - k) 0
theorem onesN_len {n k : Nat} (h : k ≤ n) : (onesN n k).length = n := by simp [onesN]; omega
theorem ones_splice {n k m : Nat} (h : k + m ≤ n) : splice ((onesN n k).map (Value.int .i64)) k ((List.replicate m (1 : Int)).map (Value.int .i64)) = (onesN n (k + m)).map (Value.int .i64) := by
  unfold splice onesN
  have e1 : (((List.replicate k (1 : Int) ++ List.replicate (n - k) 0).map (Value.int .i64)).take k) = (List.replicate k (1 : Int)).map (Value.int .i64) := by
    rw [List.map_append, List.take_append_of_le_length (by simp)]
    exact List.take_of_length_le (by simp)
  have e2 : (((List.replicate k (1 : Int) ++ List.replicate (n - k) 0).map (Value.int .i64)).drop (k + ((List.replicate m (1 : Int)).map (Value.int .i64)).length)) = (List.replicate (n - (k + m)) (0 : Int)).map (Value.int .i64) := by
    rw [List.map_append, List.drop_append]
    simp [List.drop_replicate]
    omega
  rw [e1, e2, ← List.append_assoc, ← List.map_append, ← List.map_append, List.replicate_append_replicate]
theorem ones_src {w : World} {g n k m : Nat} (h : w.heap[g]? = some (.cells ((onesN n k).map (Value.int .i64)).toArray 3 (0, 0))) (hm : m ≤ k) {j : Nat} {v : Value} (hj : ((List.replicate m (1 : Int)).map (Value.int .i64))[j]? = some v) : w.cell? ((⟨g, 0, none⟩ : Addr).add j) = some v := by
  have hjm : j < m := by
    have := (List.getElem?_eq_some_iff.1 hj).1
    simpa using this
  have hv : v = .int .i64 1 := by simp [hjm] at hj; exact hj.symm
  subst hv
  rw [Addr.add_lit]
  have e : ((onesN n k).map (Value.int .i64))[j]? = some (.int .i64 1) := by
    unfold onesN
    rw [List.map_append, List.getElem?_append_left (by simp; omega)]
    simp [List.getElem?_replicate, show j < k by omega]
  simp [World.cell?, h, e]
theorem below_drew {B : Nat} {a w : World} (h : Below B a w) : Below B a w.drew := ⟨h.os, h.tape, h.output, h.size, h.block⟩
theorem ones_own {w : World} {g n base : Nat} (hb : base ≤ g) (hn : n ≤ 8) (h : w.heap[g]? = some (.cells ((onesN n n).map (Value.int .i64)).toArray 3 (0, 0))) : Own w base (.slice (some ⟨g, 0, none⟩) n n) (List.replicate n 1) := by
  have e : onesN n n = List.replicate n 1 := by simp [onesN]
  rw [e] at h
  refine ⟨by simp, .inr ⟨g, n, _, by simp, hb, h, by simp, by unfold maxLen; omega, by simp, ?_⟩⟩
  simp
theorem made_heap {w : World} {base : Nat} {e : TypeId} {g n : Nat} {zs : List Value} (h : w.ownsRow base e 1 (.slice (some ⟨g, 0, none⟩) n n) n zs) : w.heap[g]? = some (.cells zs.toArray e (0, 0)) := by
  rcases h.2 with ⟨hv, _⟩ | ⟨g', cap, cur, hv, hb, hg, hle, hm, hs, ht⟩
  · injection hv with hv; cases hv
  · injection hv with e1 _ e2
    injection e1 with e1
    injection e1 with e1 _ _
    subst e1
    subst e2
    have : cur.toList = zs := by
      rw [← ht]; exact (List.take_of_length_le (by simp; omega)).symm
    rw [hg, ← this]
set_option maxHeartbeats 1000000 in
set_option maxRecDepth 100000 in
theorem repeat1_any (n g0 : Nat) (w : World) (h1 : 1 ≤ n) (h8 : n ≤ 8) (hc : w.cell? ⟨g0, 0, none⟩ = some (.int .i64 1)) :
    Calls Try.prog 111 #[.slice (some ⟨g0, 0, none⟩) 1 1, .int .i64 n] w fun e w' => ∃ v', e = .returned v' ∧ Own w' w.heap.size v' (List.replicate n 1) ∧ Below w.heap.size w w' := by
  obtain ⟨i0, hi, hz0, hz1, hz2⟩ := info_parts i64_info
  have hg0 : g0 < w.heap.size := World.block_lt_of_cell? w _ hc
  go_enter Try.func111, Try.ntmps111
  go_wp2_with fail
  refine (mul_one_ n h8 _).mono ?_
  rintro e wz ⟨rfl, rfl⟩
  have e0 : (List.replicate n (0 : Int)) = onesN n 0 := by simp [onesN]
  go_wp2_with (first
    | (at_make; refine wpList_make_full _ rfl _ _ 45 rfl w.heap.size 3 i0 (.int .i64 0) 1 Try.underlying45 hi hz0 hz1 _ _ _ _ n rfl rfl rfl rfl (by rw [hz2]; omega) (by unfold maxLen; omega) (Nat.le_refl _) ?_; intro w1 hown hg1; have HG := Lib.hid (made_heap hown); have hb1 : Below w.heap.size w w1 := (Below.refl _ _).grown hg1 (Nat.le_refl _) (by simp); have HC := Lib.hid ((hb1.cell (p := ⟨g0, 0, none⟩) hg0).trans hc); have HB1 := Lib.hid hb1; rw [ints_made', e0] at HG; clear hown hg1 hb1)
    | ((with_reducible show wpList _ _ _ (_ :: _) _ _); refine wpList_copy_splice rfl (.tmp 31) (.tmp 32) 45 45 rfl 3 Try.underlying45 (by kernel_rfl) _ _ _ _ _ _ rfl rfl w.heap.size 0 ((onesN n 0).map (Value.int .i64)) 3 HG.out ((List.replicate 1 (1 : Int)).map (Value.int .i64)) (by rw [show Nat.min 1 n = 1 from Nat.min_eq_left h1]; rfl) (fun _ => ⟨rfl, _, rfl, fun j v hj => by (match j, hj with | 0, hj => (simp at hj; subst hj; simpa [Addr.add] using HC.out))⟩) (by simp [onesN]; omega) (fun v hv => by (simp at hv; subst hv; rfl)) w.heap.size w HB1.out (Nat.le_refl _) ?_; intro w2 HG2 hb2; have HB2 := Lib.hid hb2; clear hb2))
  have HG3 : Hid (w2.heap[w.heap.size]? = some (.cells ((onesN n 1).map (Value.int .i64)).toArray 3 (0, 0))) := by
    have := HG2.out
    rw [ones_splice (n := n) (k := 0) (m := 1) (by omega)] at this
    exact this
  clear HG HG2 HC HB1 hc
  go_loopw [8] (fun i wr => ∃ k : Nat, 1 ≤ k ∧ k ≤ n ∧ i = .int .i64 k ∧ wr.heap[w.heap.size]? = some (.cells ((onesN n k).map (Value.int .i64)).toArray 3 (0, 0)) ∧ Below w.heap.size w wr) (fun i _ => n - (intOf i).toNat)
  case atStart => exact ⟨1, by omega, h1, rfl, HG3.out, HB2.out⟩
  case round =>
    obtain ⟨k, hk1, hk, rfl, hg, hb⟩ := hrel
    by_cases hlt : k < n
    · obtain ⟨m, hm⟩ : ∃ m, m = Nat.min k (n - k) := ⟨_, rfl⟩
      have hm1 : 1 ≤ m := by rw [hm]; exact Nat.le_min.2 ⟨hk1, by omega⟩
      have hm2 : k + m ≤ n := by have := Nat.min_le_right k (n - k); rw [show min k (n - k) = Nat.min k (n - k) from rfl] at this; omega
      have hm3 : m ≤ k := by have := Nat.min_le_left k (n - k); rw [show min k (n - k) = Nat.min k (n - k) from rfl] at this; omega
      have HM := Lib.hid hm
      have HGk := Lib.hid hg
      have HBk := Lib.hid hb
      clear hg hb hm
      go_wp2_with fail
      have hsz : (Try.prog.info? 3).map (·.size) = some 1 := by kernel_rfl
      have hl1 : ((List.replicate m (1 : Int)).map (Value.int .i64)).length = Nat.min k (n - k) := by rw [List.length_map, List.length_replicate]; exact HM.out
      have hl2 : k + ((List.replicate m (1 : Int)).map (Value.int .i64)).length ≤ ((onesN n k).map (Value.int .i64)).length := by simp [onesN]; omega
      have hl3 : ∀ v ∈ ((List.replicate m (1 : Int)).map (Value.int .i64)), v.oneCell' = true := fun v hv => by (simp at hv; obtain ⟨-, rfl⟩ := hv; rfl)
      have hl4 : ∀ (j : Nat) (v : Value), ((List.replicate m (1 : Int)).map (Value.int .i64))[j]? = some v → wr.cell? ((⟨w.heap.size, 0, none⟩ : Addr).add j) = some v := fun j v hj => ones_src HGk.out hm3 hj
      generalize hcs : (List.replicate m (1 : Int)).map (Value.int .i64) = cs at hl1 hl2 hl3 hl4
      generalize hcur : (onesN n k).map (Value.int .i64) = cur at *
      have hne : ¬ n = k := by omega
      have HW : Hid (IntKind.i64.wrap ((k : Int) + (m : Int)) = ((k + m : Nat) : Int)) := by unfold Hid; rw [← Int.natCast_add, IntWalk.i64_left]; exact wrap64_nat (k + m) (by omega)
      have hlc : cs.length = m := by rw [hl1]; exact HM.out.symm
      have HS : Hid (splice cur k cs = (onesN n (k + m)).map (Value.int .i64)) := by unfold Hid; rw [← hcur, ← hcs]; exact ones_splice hm2
      have HMM := Lib.hid HM.out
      go_region_law (refine step_copy_splice rfl (.tmp 41) (.tmp 44) 45 45 rfl 3 Try.underlying45 hsz (some ⟨w.heap.size, k, none⟩) (some ⟨w.heap.size, 0, none⟩) (n - k) (n - k) k n (by simp [Act.eval, Act.put, hne]) (by simp [Act.eval, Act.put]) w.heap.size k cur 3 HGk.out cs hl1 (fun _ => ⟨rfl, _, rfl, hl4⟩) hl2 hl3 w.heap.size w (below_drew HBk.out) (Nat.le_refl _) ?_; intro w4 HG4 hb4)
      all_goals
        rw [HS.out] at HG4
        rw [← HM.out]
        have HB4 := Lib.hid hb4
        clear hb4
        go_simp
        go_wp2
        go_roundw
        case rel => exact ⟨k + m, by omega, by omega, by rw [HW.out], HG4.out, HB4.out⟩
        case measure => simp only [intOf, HW.out]; simp; omega
    · obtain rfl : k = n := by omega
      go_wp2
      go_ret
      exact ⟨_, rfl, ones_own (Nat.le_refl _) h8 hg, hb⟩
end Go.Proofs.Ytoblhnfnjagajaa
