/- FnExactMixStrategies: the reference's function. -/
import Derived.Test.YtmcajbhillekjaaMix2
namespace Go.Proofs.Ytmcajbhillekjaa
open Go.RowKit

set_option maxHeartbeats 2000000 in
theorem specMix (v1 : Value) (xs : List Int) (v2 : Value) (ys : List Int) (m n : Int) (w : World) (h1 : Rd w v1 xs) (h2 : Rd w v2 ys) :
    Calls Try.prog 36 #[v1, v2, .int .i64 m, .int .i64 n] w fun e w' => ∃ v', e = .returned (.tuple #[v', .bool (mixOk xs ys m n)]) ∧ Own w' w.heap.size v' (mixL xs ys m n) ∧ Below w.heap.size w w' := by
  obtain ⟨A, c, rfl, hl1, hm1, hc1⟩ := h1
  obtain ⟨B, d, rfl, hl2, hm2, hc2⟩ := h2
  unfold maxLen at hm1 hm2
  have HX1 := Lib.hid hc1
  have HX2 := Lib.hid hc2
  clear hc1 hc2
  by_cases hpre : (ys.length = xs.length) ∧ inB xs.length 1 8 = true ∧ inB m 0 1000 = true ∧ inB n 0 1000 = true
  case neg =>
    have HN := Lib.hid (mix_no (m := m) (n := n) (xs := xs) (ys := ys) (fun hp => hpre ⟨hp.2.1, inB_true.2 (by have := hp.1; omega), inB_true.2 hp.2.2.2.2.1, inB_true.2 hp.2.2.2.2.2⟩))
    rcases q1 : ((xs.length : Int) != (ys.length : Int)) with _ | _
    · rcases q2 : inB xs.length 1 8 with _ | _
      · go_enter Try.func36, Try.ntmps36
        go_wp2_with (go_at_call 38; refine (l01In_any _ _ _ _).mono ?_; rintro e w1 ⟨rfl, rfl⟩)
        go_ret2
        rw [HN.out.1, HN.out.2]
        exact ⟨_, rfl, Own.nil_ _ _, Below.refl _ _⟩
      · rcases q3 : inB m 0 1000 with _ | _
        · go_enter Try.func36, Try.ntmps36
          go_wp2_with (go_at_call 38; refine (l01In_any _ _ _ _).mono ?_; rintro e w1 ⟨rfl, rfl⟩)
          go_ret2
          rw [HN.out.1, HN.out.2]
          exact ⟨_, rfl, Own.nil_ _ _, Below.refl _ _⟩
        · rcases q4 : inB n 0 1000 with _ | _
          · go_enter Try.func36, Try.ntmps36
            go_wp2_with (go_at_call 38; refine (l01In_any _ _ _ _).mono ?_; rintro e w1 ⟨rfl, rfl⟩)
            go_ret2
            rw [HN.out.1, HN.out.2]
            exact ⟨_, rfl, Own.nil_ _ _, Below.refl _ _⟩
          · exact absurd ⟨by simp at q1; omega, q2, q3, q4⟩ hpre
    · go_enter Try.func36, Try.ntmps36
      go_wp2_with (go_at_call 38; refine (l01In_any _ _ _ _).mono ?_; rintro e w1 ⟨rfl, rfl⟩)
      go_ret2
      rw [HN.out.1, HN.out.2]
      exact ⟨_, rfl, Own.nil_ _ _, Below.refl _ _⟩
  obtain ⟨hl, q2, q3, q4⟩ := hpre
  have hle := inB_true.1 q2
  have hm := inB_true.1 q3
  have hn := inB_true.1 q4
  have q1 : ((xs.length : Int) != (ys.length : Int)) = false := by simp; omega
  have HL := Lib.hid hl
  clear hl
  go_enter Try.func36, Try.ntmps36
  go_wp2_with (go_at_call 38; refine (l01In_any _ _ _ _).mono ?_; rintro e w1 ⟨rfl, rfl⟩)
  have hB0 := below_alloc1 w (.cells #[] 3)
  have hO0 := Own.lit w w.heap.size [] (Nat.le_refl _) (by simp)
  simp only [List.map_nil, List.length_nil] at hO0
  go_loopw [10, 11, 39] (fun s r i wr => ∃ k : Nat, k ≤ xs.length ∧ i = .int .i64 k ∧ r = .int .i64 (gcdL ((mixed xs ys m n).take k)) ∧ Own wr w.heap.size s ((mixed xs ys m n).take k) ∧ Below w.heap.size w wr ∧ Hid (∀ j, j < k → (0 ≤ xs.getD j 0 ∧ xs.getD j 0 ≤ 100000) ∧ (0 ≤ ys.getD j 0 ∧ ys.getD j 0 ≤ 100000)) ∧ Hid (∀ z ∈ (mixed xs ys m n).take k, 0 ≤ z ∧ z ≤ 200000000)) (fun _ _ i _ => xs.length - (intOf i).toNat)
  case atStart => exact ⟨0, by omega, rfl, rfl, hO0, hB0, fun j h => absurd h (by omega), by simp [Hid]⟩
  case round =>
    obtain ⟨k, hk, rfl, rfl, hown, hb, HQ, HZ⟩ := hrel
    by_cases hlt : k < xs.length
    · obtain ⟨b, off, rfl, hbb, hx⟩ := HX1.out (by omega)
      obtain ⟨b', off', rfl, hbb', hy⟩ := HX2.out (by have := HL.out; omega)
      have hxk : wr.cell? ⟨b, off + k, none⟩ = some (.int .i64 (xs.getD k 0)) := (hb.cell (by exact hbb)).trans (hx k (by omega))
      have hyk : wr.cell? ⟨b', off' + k, none⟩ = some (.int .i64 (ys.getD k 0)) := (hb.cell (by exact hbb')).trans (hy k (by have := HL.out; omega))
      have hlk : k < ys.length := by rw [HL.out]; exact hlt
      have hl2 : ((mixed xs ys m n).take k).length ≤ 8 := by rw [List.length_take]; omega
      have hgb : gcdL ((mixed xs ys m n).take k) ≤ 200000000 := gcdL_le _ fun z hz => by have := HZ.out z hz; omega
      have hbs := hb.size
      have HO := Lib.hid hown
      have HB := Lib.hid hb
      clear hx hy hown hb hB0 hO0
      rcases p1 : inB xs[k] 0 100000 with _ | _
      · have HN := Lib.hid (mix_no (m := m) (n := n) (xs := xs) (ys := ys) (fun hp => inB_false.1 p1 (hp.2.2.1 _ (List.getElem_mem _))))
        go_wp2_with (go_at_call 38; refine (l01In_any _ _ _ _).mono ?_; rintro e w1 ⟨rfl, rfl⟩)
        go_ret2
        rw [HN.out.1, HN.out.2]
        exact ⟨_, rfl, Own.nil_ _ _, HB.out⟩
      · rcases p2 : inB ys[k] 0 100000 with _ | _
        · have HN := Lib.hid (mix_no (m := m) (n := n) (xs := xs) (ys := ys) (fun hp => inB_false.1 p2 (hp.2.2.2.1 _ (List.getElem_mem _))))
          go_wp2_with (go_at_call 38; refine (l01In_any _ _ _ _).mono ?_; rintro e w1 ⟨rfl, rfl⟩)
          go_ret2
          rw [HN.out.1, HN.out.2]
          exact ⟨_, rfl, Own.nil_ _ _, HB.out⟩
        · have px := inB_true.1 p1
          have py := inB_true.1 p2
          have a1 : 0 ≤ m * xs[k] := Int.mul_nonneg hm.1 px.1
          have a2 : m * xs[k] ≤ 1000 * 100000 := Int.mul_le_mul hm.2 px.2 px.1 (by omega)
          have b1 : 0 ≤ n * ys[k] := Int.mul_nonneg hn.1 py.1
          have b2 : n * ys[k] ≤ 1000 * 100000 := Int.mul_le_mul hn.2 py.2 py.1 (by omega)
          have hmt : (mixed xs ys m n).take (k + 1) = (mixed xs ys m n).take k ++ [m * xs[k] + n * ys[k]] := by
            rw [mixed_take hlt]; simp [hlk, hlt]
          have hgs : gcdL ((mixed xs ys m n).take (k + 1)) = Nat.gcd (gcdL ((mixed xs ys m n).take k)) (m * xs[k] + n * ys[k]).toNat := by rw [hmt, gcdL_snoc]
          have HMT := Lib.hid hmt
          have HGS := Lib.hid hgs
          clear hmt hgs
          have hl3 : ((mixed xs ys m n).take k).length = k := by rw [List.length_take, mixed_length]; omega
          have HL3 := Lib.hid hl3
          clear hl3
          generalize hg : gcdL ((mixed xs ys m n).take k) = g at *
          clear hg
          obtain ⟨z, hz⟩ : ∃ z : Nat, m * xs[k] + n * ys[k] = (z : Int) := ⟨(m * xs[k] + n * ys[k]).toNat, by omega⟩
          have hz2 : z ≤ 200000000 := by omega
          have HZ2 := Lib.hid hz
          clear hz
          go_wp2_with (first | (go_at_call 38; refine (l01In_any _ _ _ _).mono ?_; rintro e w1 ⟨rfl, rfl⟩) | (at_builtin; refine wp_append1 _ rfl (.tmp 55) (.tmp 66) rfl w.heap.size _ _ _ rfl HO.out rfl (by omega) (by omega) ?_; intro v' w3 hown1 hg1; obtain ⟨g3, c3, rfl, hb3, hc3, hn3, hx3, -⟩ := hown1.at_ (n := k + 1) (by rw [List.length_append, HL3.out]; rfl) (by omega); have hxk3 := hx3 k (by omega); have HO1 := Lib.hid hown1; have HG1 := Lib.hid hg1; clear hx3 hown1 hg1))
          have e3 : (List.take k (mixed xs ys m n) ++ [m * xs[k] + n * ys[k]])[k]?.getD 0 = ((z : Nat) : Int) := by
            rw [List.getElem?_append_right (by rw [HL3.out]; exact Nat.le_refl _), HL3.out, Nat.sub_self]
            simp only [List.getElem?_cons_zero, Option.getD_some]
            exact HZ2.out
          rw [e3]
          refine (l10Gcd_any g z _ (by omega) (by omega)).mono ?_
          rintro e w4 ⟨rfl, rfl⟩
          have hb1 := below_append HB.out HG1.out HO.out (Nat.le_refl _) hbs
          clear e3 hxk3
          go_wp2
          go_roundw
          case rel =>
            refine ⟨k + 1, by omega, by go_num, ?_, ?_, hb1, fun j hj => ?_, ?_⟩
            · rw [HGS.out, HZ2.out]; rfl
            · rw [HMT.out]; exact HO1.out
            · by_cases hjk : j < k
              · exact HQ.out j hjk
              · obtain rfl : j = k := by omega
                simp only [List.getD_eq_getElem?_getD, List.getElem?_eq_getElem hlt, List.getElem?_eq_getElem hlk, Option.getD_some]
                exact ⟨px, py⟩
            · intro z' hz'
              rw [HMT.out, List.mem_append, List.mem_singleton] at hz'
              rcases hz' with hz' | rfl
              · exact HZ.out z' hz'
              · omega
          case measure => simp [intOf]; omega
    · obtain rfl : k = xs.length := by omega
      have hfull : (mixed xs ys m n).take xs.length = mixed xs ys m n := List.take_of_length_le (by rw [mixed_length]; exact Nat.le_refl _)
      rw [hfull] at hown ⊢
      have hP : mixP xs ys m n := ⟨by omega, HL.out, fun x hx => ?hx, fun y hy => ?hy, hm, hn⟩
      case hx =>
        obtain ⟨j, hj, rfl⟩ := List.mem_iff_getElem.1 hx
        have := (HQ.out j hj).1
        simpa [hj] using this
      case hy =>
        obtain ⟨j, hj, rfl⟩ := List.mem_iff_getElem.1 hy
        have := (HQ.out j (by rw [← HL.out]; exact hj)).2
        simpa [hj] using this
      have hbd := mixed_bd hP
      have hgb : gcdL (mixed xs ys m n) ≤ 200000000 := gcdL_le _ fun z hz => by have := hbd z hz; omega
      have hln : (mixed xs ys m n).length = xs.length := mixed_length _ _ _ _
      by_cases hg : gcdL (mixed xs ys m n) = 0
      · have HM : Hid (mixOk xs ys m n = false ∧ mixL xs ys m n = []) := by
          have := mixOk_false (xs := xs) (ys := ys) (m := m) (n := n) (fun h => h.2 hg)
          exact ⟨this, by unfold mixL; rw [this]; rfl⟩
        rw [hg]
        clear hln hbd hg hfull hgb hown
        have HB := Lib.hid hb
        clear hb
        go_wp2
        go_ret2
        rw [HM.out.1, HM.out.2]
        exact ⟨_, rfl, Own.nil_ _ _, HB.out⟩
      · have HM : Hid (mixOk xs ys m n = true ∧ mixL xs ys m n = (mixed xs ys m n).map fun x => x / (gcdL (mixed xs ys m n) : Int)) := by
          have := mixOk_true.2 ⟨hP, hg⟩
          exact ⟨this, by unfold mixL; rw [if_pos this]; rfl⟩
        have hg1 : ((gcdL (mixed xs ys m n) : Int) == 0) = false := by simp; exact hg
        have hg2 : 1 ≤ gcdL (mixed xs ys m n) := by omega
        have HLN := Lib.hid hln
        have HBD := Lib.hid hbd
        have HB := Lib.hid hb
        have HO := Lib.hid hown
        obtain ⟨Y, cy, rfl, -, -, hy⟩ := hown.form
        rw [hln]
        rw [hln] at hy
        have HO' : Hid (Own wr w.heap.size (.slice Y xs.length cy) (mixed xs ys m n)) := by have := HO.out; rwa [hln] at this
        have HY := Lib.hid hy
        clear hy hown hb HO hln hbd hfull hP hg
        generalize hgg : gcdL (mixed xs ys m n) = g at *
        clear hgg
        obtain ⟨wo, rfl⟩ : ∃ wo : World, wo = wr := ⟨_, rfl⟩
        go_wp2
        go_loopw [79] (fun i wr => ∃ j : Nat, j ≤ xs.length ∧ i = .int .i64 j ∧ Own wr w.heap.size (.slice Y xs.length cy) (((mixed xs ys m n).map fun x => x / (g : Int)).take j ++ (mixed xs ys m n).drop j) ∧ Below w.heap.size w wr) (fun i _ => xs.length - (intOf i).toNat)
        case atStart => exact ⟨0, by omega, rfl, by simpa using HO'.out, HB.out⟩
        case round =>
          obtain ⟨j, hj, rfl, hown, hb⟩ := hrel
          have hll : (((mixed xs ys m n).map fun x => x / (g : Int)).take j ++ (mixed xs ys m n).drop j).length = xs.length := by
            rw [List.length_append, List.length_take, List.length_map, List.length_drop, HLN.out]; omega
          by_cases hlt : j < xs.length
          · obtain ⟨q, rfl, hq, -⟩ := HY.out (by omega)
            obtain ⟨g', c', e1, hb', -, -, hx', hf'⟩ := hown.at_ hll (by omega)
            injection e1 with e1 _ e2
            injection e1 with e1
            injection e1 with e1 _ _
            subst e1
            subst e2
            have hzj : (((mixed xs ys m n).map fun x => x / (g : Int)).take j ++ (mixed xs ys m n).drop j).getD j 0 = (mixed xs ys m n).getD j 0 := by
              rw [List.getD_eq_getElem?_getD, List.getElem?_append_right (by rw [List.length_take, List.length_map, HLN.out]; omega), List.length_take, List.length_map, HLN.out, show j - min j xs.length = 0 by omega, List.getElem?_drop, Nat.add_zero, List.getD_eq_getElem?_getD]
            have hxj := hx' j hlt
            rw [hzj] at hxj
            have hfj := hf' j
            have hjl : j < (mixed xs ys m n).length := by rw [HLN.out]; exact hlt
            have hbz := HBD.out (mixed xs ys m n)[j] (List.getElem_mem _)
            have ez : (mixed xs ys m n).getD j 0 = (mixed xs ys m n)[j] := by simp [hjl]
            have S := hown.set_ hll j ((mixed xs ys m n).getD j 0 / (g : Int))
            rw [set_map_take (fun x => x / (g : Int)) (mixed xs ys m n) j (by rw [HLN.out]; exact hlt)] at S
            rw [ez] at S hxj
            have HS := Lib.hid S
            have HBn := Lib.hid (hb.setCell (p := ⟨q, j, none⟩) (by exact hq) (.int .i64 ((mixed xs ys m n)[j] / (g : Int))))
            clear hx' hf' hown S hzj ez hll hb
            go_wp2
            go_roundw
            case rel => exact ⟨j + 1, by omega, by go_num, HS.out.1, HBn.out⟩
            case measure => simp [intOf]; omega
          · obtain rfl : j = xs.length := by omega
            go_wp2
            go_ret2
            rw [HM.out.1, HM.out.2]
            refine ⟨_, rfl, ?_, hb⟩
            rw [List.drop_of_length_le (by rw [HLN.out]; exact Nat.le_refl _), List.append_nil, List.take_of_length_le (by rw [List.length_map, HLN.out]; exact Nat.le_refl _)] at hown
            exact hown
end Go.Proofs.Ytmcajbhillekjaa
