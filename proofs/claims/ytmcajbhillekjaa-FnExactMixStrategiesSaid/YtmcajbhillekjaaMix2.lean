/- FnExactMixStrategies: the two functions. -/
import Derived.Test.YtmcajbhillekjaaMix
import Derived.Test.YtmcajbhillekjaaMax
namespace Go.Proofs.Ytmcajbhillekjaa
open Go.RowKit

/-- m times the one plus n times the other -/
def mixed (xs ys : List Int) (m n : Int) : List Int := (List.range xs.length).map fun i => m * xs.getD i 0 + n * ys.getD i 0
theorem mixed_length (xs ys : List Int) (m n : Int) : (mixed xs ys m n).length = xs.length := by simp [mixed]
def mixP (xs ys : List Int) (m n : Int) : Prop := (1 ≤ xs.length ∧ xs.length ≤ 8) ∧ ys.length = xs.length ∧ (∀ x ∈ xs, 0 ≤ x ∧ x ≤ 100000) ∧ (∀ y ∈ ys, 0 ≤ y ∧ y ≤ 100000) ∧ (0 ≤ m ∧ m ≤ 1000) ∧ (0 ≤ n ∧ n ≤ 1000)
noncomputable def mixOk (xs ys : List Int) (m n : Int) : Bool := @decide (mixP xs ys m n ∧ gcdL (mixed xs ys m n) ≠ 0) (Classical.propDecidable _)
noncomputable def mixL (xs ys : List Int) (m n : Int) : List Int := if mixOk xs ys m n = true then lowL (mixed xs ys m n) else []
theorem mixOk_true {xs ys : List Int} {m n : Int} : mixOk xs ys m n = true ↔ mixP xs ys m n ∧ gcdL (mixed xs ys m n) ≠ 0 := by unfold mixOk; simp
theorem mixOk_false {xs ys : List Int} {m n : Int} (h : ¬ (mixP xs ys m n ∧ gcdL (mixed xs ys m n) ≠ 0)) : mixOk xs ys m n = false := by
  rcases hb : mixOk xs ys m n with _ | _
  · rfl
  · exact absurd (mixOk_true.1 hb) h
theorem mixL_len (xs ys : List Int) (m n : Int) : (mixL xs ys m n).length ≤ 8 := by
  unfold mixL
  split
  · rename_i h
    have := (mixOk_true.1 h).1.1
    simp [lowL, mixed_length]; omega
  · simp
theorem mixed_bd {xs ys : List Int} {m n : Int} (h : mixP xs ys m n) : ∀ x ∈ mixed xs ys m n, 0 ≤ x ∧ x ≤ 200000000 := by
  intro x hx
  obtain ⟨i, hi, rfl⟩ := List.mem_map.1 hx
  obtain ⟨_, hl, hx, hy, hm, hn⟩ := h
  have hi' : i < xs.length := by simpa using hi
  have h1 := hx xs[i] (List.getElem_mem hi')
  have h2 := hy (ys[i]'(by omega)) (List.getElem_mem _)
  have e1 : xs.getD i 0 = xs[i] := by simp [hi']
  have e2 : ys.getD i 0 = ys[i]'(by omega) := by simp [show i < ys.length by omega]
  rw [e1, e2]
  have a1 : 0 ≤ m * xs[i] := Int.mul_nonneg hm.1 h1.1
  have a2 : m * xs[i] ≤ 1000 * 100000 := Int.mul_le_mul hm.2 h1.2 h1.1 (by omega)
  have b1 : 0 ≤ n * ys[i]'(by omega) := Int.mul_nonneg hn.1 h2.1
  have b2 : n * ys[i]'(by omega) ≤ 1000 * 100000 := Int.mul_le_mul hn.2 h2.2 h2.1 (by omega)
  omega
theorem mixed_take {xs ys : List Int} {m n : Int} {k : Nat} (hk : k < xs.length) : (mixed xs ys m n).take (k + 1) = (mixed xs ys m n).take k ++ [m * xs.getD k 0 + n * ys.getD k 0] := by
  rw [List.take_succ_eq_append_getElem (by rw [mixed_length]; exact hk)]
  simp [mixed]

theorem mix_no {xs ys : List Int} {m n : Int} (h : ¬ mixP xs ys m n) : mixOk xs ys m n = false ∧ mixL xs ys m n = [] := by
  have e := mixOk_false (xs := xs) (ys := ys) (m := m) (n := n) fun hh => h hh.1
  exact ⟨e, by unfold mixL; rw [e]; rfl⟩
theorem allB_true {xs : List Int} {lo hi : Int} (h : ∀ x ∈ xs, lo ≤ x ∧ x ≤ hi) : allB xs lo hi = true := by
  unfold allB; rw [List.all_eq_true]; exact fun x hx => inB_true.2 (h x hx)
theorem allB_of {xs : List Int} {lo hi : Int} (h : allB xs lo hi = true) : ∀ x ∈ xs, lo ≤ x ∧ x ≤ hi := by
  unfold allB at h; rw [List.all_eq_true] at h; exact fun x hx => inB_true.1 (h x hx)
theorem maxI_gcd {xs : List Int} (h0 : ∀ x ∈ xs, 0 ≤ x) (hne : 0 < xs.length) : (maxI xs == 0) = true ↔ gcdL xs = 0 := by
  have h1 := maxI_pos h0 hne
  have h2 : 0 ≤ maxI xs := by
    obtain ⟨j, hj, e⟩ := maxTo_mem xs (xs.length - 1)
    have hjl : j < xs.length := by omega
    have := h0 _ (List.getElem_mem hjl)
    unfold maxI
    rw [e, List.getElem?_eq_getElem hjl]
    exact this
  rw [gcdL_zero h0, beq_iff_eq]
  constructor
  · intro h x hx
    exact Classical.byContradiction fun hne => by have := h1.2 ⟨x, hx, hne⟩; omega
  · intro h
    have : ¬ 0 < maxI xs := fun hp => by obtain ⟨x, hx, hne⟩ := h1.1 hp; exact hne (h x hx)
    omega
set_option maxHeartbeats 2000000 in
theorem implMix (v1 : Value) (xs : List Int) (v2 : Value) (ys : List Int) (m n : Int) (w : World) (h1 : Rd w v1 xs) (h2 : Rd w v2 ys) :
    Calls Try.prog 37 #[v1, v2, .int .i64 m, .int .i64 n] w fun e w' => ∃ v', e = .returned (.tuple #[v', .bool (mixOk xs ys m n)]) ∧ Own w' w.heap.size v' (mixL xs ys m n) ∧ Below w.heap.size w w' := by
  have HR1 := Lib.hid h1
  have HR2 := Lib.hid h2
  obtain ⟨A, c, rfl, hl1, hm1, hc1⟩ := h1
  obtain ⟨B, d, rfl, hl2, hm2, hc2⟩ := h2
  unfold maxLen at hm1 hm2
  clear hc1 hc2
  rcases q1 : inB xs.length 1 8 with _ | _
  case false =>
    have HN := Lib.hid (mix_no (m := m) (n := n) (xs := xs) (ys := ys) (fun hp => inB_false.1 q1 (by have := hp.1; omega)))
    go_enter Try.func37, Try.ntmps37
    go_wp2_with (first | (go_at_call 39; refine (within_any _ _ _ _).mono ?_; rintro e w1 ⟨rfl, rfl⟩) | (go_at_call 42; with_reducible refine (allWithin_any _ xs 0 100000 _ HR1.out).mono ?_; rintro e w1 ⟨rfl, hb1⟩; have HB1 := Lib.hid hb1; have HR2' := Lib.hid (HR2.out.below hb1); have HR1' := Lib.hid (HR1.out.below hb1); clear hb1) | (go_at_call 42; with_reducible refine (allWithin_any _ ys 0 100000 _ HR2'.out).mono ?_; rintro e w2 ⟨rfl, hb2⟩; have HB2 := Lib.hid (Below.then HB1.out hb2); have HR2'' := Lib.hid (HR2'.out.below hb2); have HR1'' := Lib.hid (HR1'.out.below hb2); clear hb2))
    go_ret2
    rw [HN.out.1, HN.out.2]
    first | exact ⟨_, rfl, Own.nil_ _ _, Below.refl _ _⟩ | exact ⟨_, rfl, Own.nil_ _ _, HB2.out⟩ | exact ⟨_, rfl, Own.nil_ _ _, HB1.out⟩
  have q1' := inB_true.1 q1
  rcases q2 : ((ys.length : Int) != (xs.length : Int)) with _ | _
  case true =>
    have HN := Lib.hid (mix_no (m := m) (n := n) (xs := xs) (ys := ys) (fun hp => by have := hp.2.1; simp at q2; omega))
    go_enter Try.func37, Try.ntmps37
    go_wp2_with (first | (go_at_call 39; refine (within_any _ _ _ _).mono ?_; rintro e w1 ⟨rfl, rfl⟩) | (go_at_call 42; with_reducible refine (allWithin_any _ xs 0 100000 _ HR1.out).mono ?_; rintro e w1 ⟨rfl, hb1⟩; have HB1 := Lib.hid hb1; have HR2' := Lib.hid (HR2.out.below hb1); have HR1' := Lib.hid (HR1.out.below hb1); clear hb1) | (go_at_call 42; with_reducible refine (allWithin_any _ ys 0 100000 _ HR2'.out).mono ?_; rintro e w2 ⟨rfl, hb2⟩; have HB2 := Lib.hid (Below.then HB1.out hb2); have HR2'' := Lib.hid (HR2'.out.below hb2); have HR1'' := Lib.hid (HR1'.out.below hb2); clear hb2))
    go_ret2
    rw [HN.out.1, HN.out.2]
    first | exact ⟨_, rfl, Own.nil_ _ _, Below.refl _ _⟩ | exact ⟨_, rfl, Own.nil_ _ _, HB2.out⟩ | exact ⟨_, rfl, Own.nil_ _ _, HB1.out⟩
  rcases q3 : allB xs 0 100000 with _ | _
  case false =>
    have HN := Lib.hid (mix_no (m := m) (n := n) (xs := xs) (ys := ys) (fun hp => by rw [allB_true hp.2.2.1] at q3; cases q3))
    go_enter Try.func37, Try.ntmps37
    go_wp2_with (first | (go_at_call 39; refine (within_any _ _ _ _).mono ?_; rintro e w1 ⟨rfl, rfl⟩) | (go_at_call 42; with_reducible refine (allWithin_any _ xs 0 100000 _ HR1.out).mono ?_; rintro e w1 ⟨rfl, hb1⟩; have HB1 := Lib.hid hb1; have HR2' := Lib.hid (HR2.out.below hb1); have HR1' := Lib.hid (HR1.out.below hb1); clear hb1) | (go_at_call 42; with_reducible refine (allWithin_any _ ys 0 100000 _ HR2'.out).mono ?_; rintro e w2 ⟨rfl, hb2⟩; have HB2 := Lib.hid (Below.then HB1.out hb2); have HR2'' := Lib.hid (HR2'.out.below hb2); have HR1'' := Lib.hid (HR1'.out.below hb2); clear hb2))
    go_ret2
    rw [HN.out.1, HN.out.2]
    first | exact ⟨_, rfl, Own.nil_ _ _, Below.refl _ _⟩ | exact ⟨_, rfl, Own.nil_ _ _, HB2.out⟩ | exact ⟨_, rfl, Own.nil_ _ _, HB1.out⟩
  rcases q4 : allB ys 0 100000 with _ | _
  case false =>
    have HN := Lib.hid (mix_no (m := m) (n := n) (xs := xs) (ys := ys) (fun hp => by rw [allB_true hp.2.2.2.1] at q4; cases q4))
    go_enter Try.func37, Try.ntmps37
    go_wp2_with (first | (go_at_call 39; refine (within_any _ _ _ _).mono ?_; rintro e w1 ⟨rfl, rfl⟩) | (go_at_call 42; with_reducible refine (allWithin_any _ xs 0 100000 _ HR1.out).mono ?_; rintro e w1 ⟨rfl, hb1⟩; have HB1 := Lib.hid hb1; have HR2' := Lib.hid (HR2.out.below hb1); have HR1' := Lib.hid (HR1.out.below hb1); clear hb1) | (go_at_call 42; with_reducible refine (allWithin_any _ ys 0 100000 _ HR2'.out).mono ?_; rintro e w2 ⟨rfl, hb2⟩; have HB2 := Lib.hid (Below.then HB1.out hb2); have HR2'' := Lib.hid (HR2'.out.below hb2); have HR1'' := Lib.hid (HR1'.out.below hb2); clear hb2))
    go_ret2
    rw [HN.out.1, HN.out.2]
    first | exact ⟨_, rfl, Own.nil_ _ _, Below.refl _ _⟩ | exact ⟨_, rfl, Own.nil_ _ _, HB2.out⟩ | exact ⟨_, rfl, Own.nil_ _ _, HB1.out⟩
  rcases q5 : inB m 0 1000 with _ | _
  case false =>
    have HN := Lib.hid (mix_no (m := m) (n := n) (xs := xs) (ys := ys) (fun hp => inB_false.1 q5 hp.2.2.2.2.1))
    go_enter Try.func37, Try.ntmps37
    go_wp2_with (first | (go_at_call 39; refine (within_any _ _ _ _).mono ?_; rintro e w1 ⟨rfl, rfl⟩) | (go_at_call 42; with_reducible refine (allWithin_any _ xs 0 100000 _ HR1.out).mono ?_; rintro e w1 ⟨rfl, hb1⟩; have HB1 := Lib.hid hb1; have HR2' := Lib.hid (HR2.out.below hb1); have HR1' := Lib.hid (HR1.out.below hb1); clear hb1) | (go_at_call 42; with_reducible refine (allWithin_any _ ys 0 100000 _ HR2'.out).mono ?_; rintro e w2 ⟨rfl, hb2⟩; have HB2 := Lib.hid (Below.then HB1.out hb2); have HR2'' := Lib.hid (HR2'.out.below hb2); have HR1'' := Lib.hid (HR1'.out.below hb2); clear hb2))
    go_ret2
    rw [HN.out.1, HN.out.2]
    first | exact ⟨_, rfl, Own.nil_ _ _, Below.refl _ _⟩ | exact ⟨_, rfl, Own.nil_ _ _, HB2.out⟩ | exact ⟨_, rfl, Own.nil_ _ _, HB1.out⟩
  rcases q6 : inB n 0 1000 with _ | _
  case false =>
    have HN := Lib.hid (mix_no (m := m) (n := n) (xs := xs) (ys := ys) (fun hp => inB_false.1 q6 hp.2.2.2.2.2))
    go_enter Try.func37, Try.ntmps37
    go_wp2_with (first | (go_at_call 39; refine (within_any _ _ _ _).mono ?_; rintro e w1 ⟨rfl, rfl⟩) | (go_at_call 42; with_reducible refine (allWithin_any _ xs 0 100000 _ HR1.out).mono ?_; rintro e w1 ⟨rfl, hb1⟩; have HB1 := Lib.hid hb1; have HR2' := Lib.hid (HR2.out.below hb1); have HR1' := Lib.hid (HR1.out.below hb1); clear hb1) | (go_at_call 42; with_reducible refine (allWithin_any _ ys 0 100000 _ HR2'.out).mono ?_; rintro e w2 ⟨rfl, hb2⟩; have HB2 := Lib.hid (Below.then HB1.out hb2); have HR2'' := Lib.hid (HR2'.out.below hb2); have HR1'' := Lib.hid (HR1'.out.below hb2); clear hb2))
    go_ret2
    rw [HN.out.1, HN.out.2]
    first | exact ⟨_, rfl, Own.nil_ _ _, Below.refl _ _⟩ | exact ⟨_, rfl, Own.nil_ _ _, HB2.out⟩ | exact ⟨_, rfl, Own.nil_ _ _, HB1.out⟩
  have hP : mixP xs ys m n := ⟨by omega, by simp at q2; omega, allB_of q3, allB_of q4, inB_true.1 q5, inB_true.1 q6⟩
  have hbd := mixed_bd hP
  have HP := Lib.hid hP
  have hm := inB_true.1 q5
  have hn := inB_true.1 q6
  have HL := Lib.hid hP.2.1
  have HBD := Lib.hid hbd
  clear hP hbd
  go_enter Try.func37, Try.ntmps37
  go_wp2_with (first | (go_at_call 39; refine (within_any _ _ _ _).mono ?_; rintro e w1 ⟨rfl, rfl⟩) | (go_at_call 42; with_reducible refine (allWithin_any _ xs 0 100000 _ HR1.out).mono ?_; rintro e w1 ⟨rfl, hb1⟩; have HB1 := Lib.hid hb1; have HR2' := Lib.hid (HR2.out.below hb1); have HR1' := Lib.hid (HR1.out.below hb1); clear hb1) | (go_at_call 42; with_reducible refine (allWithin_any _ ys 0 100000 _ HR2'.out).mono ?_; rintro e w2 ⟨rfl, hb2⟩; have HB2 := Lib.hid (Below.then HB1.out hb2); have HR2'' := Lib.hid (HR2'.out.below hb2); have HR1'' := Lib.hid (HR1'.out.below hb2); clear hb2))
  have hB0 := HB2.out
  have HBW := Lib.hid hB0.size
  have X1 := HR1''
  have X2 := HR2''
  clear HB1 HR1' HR2' HR1'' HR2''
  obtain ⟨A', c', e1, hl1', hm1', hx1⟩ := X1.out
  obtain ⟨B', d', e2, hl2', hm2', hx2⟩ := X2.out
  cases e1
  cases e2
  have HX1 := Lib.hid hx1
  have HX2 := Lib.hid hx2
  clear hx1 hx2 X1 X2
  go_loopw [10, 46] (fun s i wr => ∃ k : Nat, k ≤ xs.length ∧ i = .int .i64 k ∧ Own wr w2.heap.size s ((mixed xs ys m n).take k) ∧ Below w2.heap.size w2 wr ∧ Below w.heap.size w wr) (fun _ i _ => xs.length - (intOf i).toNat)
  case atStart => exact ⟨0, by omega, rfl, Own.nil_ _ _, Below.refl _ _, hB0⟩
  case round =>
    obtain ⟨k, hk, rfl, hown, hb2, hb⟩ := hrel
    by_cases hlt : k < xs.length
    · obtain ⟨b, off, rfl, hbb, hx⟩ := HX1.out (by omega)
      obtain ⟨b', off', rfl, hbb', hy⟩ := HX2.out (by have := HL.out; omega)
      have hxk : wr.cell? ⟨b, off + k, none⟩ = some (.int .i64 (xs.getD k 0)) := (hb2.cell (by exact hbb)).trans (hx k (by omega))
      have hyk : wr.cell? ⟨b', off' + k, none⟩ = some (.int .i64 (ys.getD k 0)) := (hb2.cell (by exact hbb')).trans (hy k (by have := HL.out; omega))
      have px := HP.out.2.2.1 xs[k] (List.getElem_mem _)
      have hlk : k < ys.length := by rw [HL.out]; exact hlt
      have py := HP.out.2.2.2.1 ys[k] (List.getElem_mem _)
      have a1 : 0 ≤ m * xs[k] := Int.mul_nonneg hm.1 px.1
      have a2 : m * xs[k] ≤ 1000 * 100000 := Int.mul_le_mul hm.2 px.2 px.1 (by omega)
      have b1 : 0 ≤ n * ys[k] := Int.mul_nonneg hn.1 py.1
      have b2 : n * ys[k] ≤ 1000 * 100000 := Int.mul_le_mul hn.2 py.2 py.1 (by omega)
      have hl2 : ((mixed xs ys m n).take k).length ≤ 8 := by rw [List.length_take]; omega
      have hbs := hb2.size
      have hbw := HBW.out
      have HO := Lib.hid hown
      have HB := Lib.hid hb
      have HB2' := Lib.hid hb2
      clear hx hy hown hb hb2
      go_wp2_with (at_builtin; refine wp_append1 _ rfl (.tmp 51) (.tmp 62) rfl w2.heap.size _ _ _ rfl HO.out rfl (by omega) (by omega) ?_; intro v' w3 hown1 hg1)
      have hb1 := below_append HB.out hg1 HO.out hbw hbs
      have hb3 := below_append HB2'.out hg1 HO.out (Nat.le_refl _) hbs
      go_roundw
      case rel =>
        refine ⟨k + 1, by omega, by go_num, ?_, hb3, hb1⟩
        rw [mixed_take (by exact hlt)]
        simpa [hlk, hlt] using hown1
      case measure => simp [intOf]; omega
    · obtain rfl : k = xs.length := by omega
      have hfull : (mixed xs ys m n).take xs.length = mixed xs ys m n := List.take_of_length_le (by rw [mixed_length]; exact Nat.le_refl _)
      rw [hfull] at hown
      have HO := Lib.hid hown
      have HB := Lib.hid hb
      have hlm : 0 < (mixed xs ys m n).length := by rw [mixed_length]; omega
      have HLM := Lib.hid hlm
      obtain ⟨Y, cy, rfl, -, -, -⟩ := hown.form
      have hiff := maxI_gcd (fun x hx => (HBD.out x hx).1) hlm
      have HI := Lib.hid hiff
      clear hown hb hb2 hfull hlm hiff
      rcases hz : (maxI (mixed xs ys m n) == 0) with _ | _
      · have hg : gcdL (mixed xs ys m n) ≠ 0 := fun h0 => by
          have := HI.out.2 h0
          rw [hz] at this
          cases this
        have HM : Hid (mixOk xs ys m n = true ∧ mixL xs ys m n = lowL (mixed xs ys m n)) := by
          have := mixOk_true.2 ⟨HP.out, hg⟩
          exact ⟨this, by unfold mixL; rw [if_pos this]⟩
        have HG := Lib.hid hg
        clear hg
        go_wp2_with (go_at_call 58; refine (max_any _ (mixed xs ys m n) _ HO.out.rd HLM.out).mono ?_; rintro e w3 ⟨rfl, rfl⟩)
        refine (lowest_any _ (mixed xs ys m n) _ HO.out.rd (fun x hx => by have := HBD.out x hx; omega) HG.out (by rw [mixed_length]; omega)).mono ?_
        rintro e w3 ⟨v', rfl, ho3, hb3, -⟩
        go_wp2
        go_ret2
        rw [HM.out.1, HM.out.2]
        exact ⟨_, rfl, ho3.mono HB.out.size, Below.then HB.out hb3⟩
      · have hg : gcdL (mixed xs ys m n) = 0 := HI.out.1 hz
        have HM : Hid (mixOk xs ys m n = false ∧ mixL xs ys m n = []) := by
          have := mixOk_false (xs := xs) (ys := ys) (m := m) (n := n) (fun h => h.2 hg)
          exact ⟨this, by unfold mixL; rw [this]; rfl⟩
        clear hg
        go_wp2_with (go_at_call 58; refine (max_any _ (mixed xs ys m n) _ HO.out.rd HLM.out).mono ?_; rintro e w3 ⟨rfl, rfl⟩)
        go_ret2
        rw [HM.out.1, HM.out.2]
        exact ⟨_, rfl, Own.nil_ _ _, HB.out⟩
end Go.Proofs.Ytmcajbhillekjaa
