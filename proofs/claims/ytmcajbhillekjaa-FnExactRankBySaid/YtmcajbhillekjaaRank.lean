/- FnExactRankBy: the walks. -/
import Derived.Test.YtmcajbhillekjaaApp
namespace Go.Proofs.Ytmcajbhillekjaa
open Go.RowKit

def rankOf (xs : List Int) (x : Int) : Nat := 1 + (xs.filter fun y => decide (x < y)).length
def rankL (xs : List Int) : List Int := if xs.length ≤ 40 then xs.map fun x => (rankOf xs x : Int) else []
theorem rankL_len (xs : List Int) : (rankL xs).length ≤ 40 := by unfold rankL; split <;> simp; assumption
theorem rank_le (xs : List Int) (k : Nat) (x : Int) : ((xs.take k).filter fun y => decide (x < y)).length ≤ k := by
  refine Nat.le_trans (List.length_filter_le _ _) ?_
  rw [List.length_take]; omega
theorem rank_step {xs : List Int} {k : Nat} {x : Int} (hk : k < xs.length) : ((xs.take (k + 1)).filter fun y => decide (x < y)).length = ((xs.take k).filter fun y => decide (x < y)).length + if x < xs[k]?.getD 0 then 1 else 0 := by
  rw [List.take_succ_eq_append_getElem hk, List.filter_append, List.length_append]
  have e : xs[k]?.getD 0 = xs[k] := by simp [hk]
  rw [e]
  by_cases h : x < xs[k] <;> simp [h]
theorem map_take_succ {xs : List Int} {k : Nat} (f : Int → Int) (hk : k < xs.length) : (xs.take (k + 1)).map f = (xs.take k).map f ++ [f (xs[k]?.getD 0)] := by
  rw [List.take_succ_eq_append_getElem hk, List.map_append]
  have e : xs[k]?.getD 0 = xs[k] := by simp [hk]
  rw [e]; rfl

set_option maxHeartbeats 1000000 in
theorem implRankBy (v : Value) (xs : List Int) (w : World) (h : Rd w v xs) :
    Calls Try.prog 18 #[v] w fun e w' => ∃ v', e = .returned v' ∧ Own w' w.heap.size v' (rankL xs) ∧ Below w.heap.size w w' := by
  have HR := Lib.hid h
  obtain ⟨A, c, rfl, hl1, hm1, hc1⟩ := h
  unfold maxLen at hm1
  generalize hn : xs.length = n at *
  have H1 := Lib.hid hn
  have H3 := Lib.hid hc1
  clear hn hc1
  by_cases h40 : n ≤ 40
  · have h40' : decide ((40 : Int) < (n : Int)) = false := by simp; omega
    go_enter Try.func18, Try.ntmps18
    go_wp2
    go_loopw [3, 14] (fun s i wr => ∃ k : Nat, k ≤ n ∧ i = .int .i64 k ∧ Own wr w.heap.size s ((xs.take k).map fun x => (rankOf xs x : Int)) ∧ Below w.heap.size w wr) (fun _ i _ => n - (intOf i).toNat)
    case atStart => exact ⟨0, by omega, rfl, Own.nil_ _ _, Below.refl _ _⟩
    case round =>
      obtain ⟨k, hk, rfl, hown, hb⟩ := hrel
      by_cases hlt : k < n
      · obtain ⟨b, off, rfl, hbb, hx⟩ := H3.out (by omega)
        have hx' : ∀ j, j < n → wr.cell? ⟨b, off + j, none⟩ = some (.int .i64 (xs.getD j 0)) := fun j hj => (hb.cell (by exact hbb)).trans (hx j hj)
        have hxk := hx' k hlt
        have HX := Lib.hid hx'
        have HO := Lib.hid hown
        have HB := Lib.hid hb
        clear hx hx' hown hb
        go_wp2
        go_loop [6, 20] (fun r i => ∃ j : Nat, j ≤ n ∧ i = .int .i64 j ∧ r = .int .i64 ((1 + ((xs.take j).filter fun y => decide (xs[k]?.getD 0 < y)).length : Nat) : Int)) (fun _ i => n - (intOf i).toNat)
        case atStart => exact ⟨0, by omega, rfl, by simp⟩
        case round =>
          obtain ⟨j, hj, rfl, rfl⟩ := hrel
          have hle := rank_le xs j (xs[k]?.getD 0)
          by_cases hlj : j < n
          · have hxj := HX.out j hlj
            have hst := rank_step (x := xs[k]?.getD 0) (by rw [H1.out]; exact hlj : j < xs.length)
            generalize hg : ((xs.take j).filter fun y => decide (xs[k]?.getD 0 < y)).length = g at *
            have HS := Lib.hid hst
            clear hst hg
            go_wp2
            · have hlt' : xs[k]?.getD 0 < xs[j]?.getD 0 := by assumption
              go_round
              case rel => exact ⟨j + 1, by omega, by go_num, by rw [HS.out, if_pos hlt']; go_num⟩
              case measure => simp [intOf]; omega
            · have hlt' : ¬ xs[k]?.getD 0 < xs[j]?.getD 0 := by omega
              go_round
              case rel => exact ⟨j + 1, by omega, by go_num, by rw [HS.out, if_neg hlt']; go_num⟩
              case measure => simp [intOf]; omega
          · obtain rfl : j = n := by omega
            have hown := HO.out
            have hlen : ((xs.take k).map fun x => (rankOf xs x : Int)).length ≤ 40 := by rw [List.length_map, List.length_take]; omega
            have hbs := HB.out.size
            go_wp2_with (at_builtin; refine wp_append1 _ rfl (.tmp 30) (.tmp 32) rfl w.heap.size _ _ _ rfl hown rfl (by omega) (by omega) ?_; intro v' w1 hown1 hg1)
            have hb1 := below_append HB.out hg1 hown (Nat.le_refl _) hbs
            go_roundw
            case rel =>
              refine ⟨k + 1, by omega, by go_num, ?_, hb1⟩
              rw [map_take_succ _ (by rw [H1.out]; exact hlt)]
              have : List.take j xs = xs := List.take_of_length_le (by rw [H1.out]; exact Nat.le_refl _)
              rw [this] at hown1
              exact hown1
            case measure => simp [intOf]; omega
      · obtain rfl : k = n := by omega
        go_wp2
        go_ret
        refine ⟨_, rfl, ?_, hb⟩
        unfold rankL
        rw [if_pos (by rw [H1.out]; exact h40)]
        rwa [List.take_of_length_le (by rw [H1.out]; exact Nat.le_refl _)] at hown
  · have h40' : decide ((40 : Int) < (n : Int)) = true := by simp; omega
    go_enter Try.func18, Try.ntmps18
    go_wp2
    go_ret
    refine ⟨_, rfl, ?_, Below.refl _ _⟩
    unfold rankL
    rw [if_neg (by rw [H1.out]; exact h40)]
    exact Own.nil_ _ _

set_option maxHeartbeats 1000000 in
theorem specRankBy (v : Value) (xs : List Int) (w : World) (h : Rd w v xs) :
    Calls Try.prog 17 #[v] w fun e w' => ∃ v', e = .returned v' ∧ Own w' w.heap.size v' (rankL xs) ∧ Below w.heap.size w w' := by
  have HR := Lib.hid h
  obtain ⟨A, c, rfl, hl1, hm1, hc1⟩ := h
  unfold maxLen at hm1
  generalize hn : xs.length = n at *
  have H1 := Lib.hid hn
  have H3 := Lib.hid hc1
  clear hn hc1
  by_cases h40 : n ≤ 40
  · have h40' : decide ((40 : Int) < (n : Int)) = false := by simp; omega
    go_enter Try.func17, Try.ntmps17
    go_wp2
    go_loopw [3, 15] (fun s i wr => ∃ k : Nat, k ≤ n ∧ i = .int .i64 k ∧ Own wr w.heap.size s ((xs.take k).map fun x => (rankOf xs x : Int)) ∧ Below w.heap.size w wr) (fun _ i _ => n - (intOf i).toNat)
    case atStart => exact ⟨0, by omega, rfl, Own.lit w _ [] (Nat.le_refl _) (by simp), (Below.refl _ _).alloc (Nat.le_refl _) _⟩
    case round =>
      obtain ⟨k, hk, rfl, hown, hb⟩ := hrel
      by_cases hlt : k < n
      · obtain ⟨b, off, rfl, hbb, hx⟩ := H3.out (by omega)
        have hx' : ∀ j, j < n → wr.cell? ⟨b, off + j, none⟩ = some (.int .i64 (xs.getD j 0)) := fun j hj => (hb.cell (by exact hbb)).trans (hx j hj)
        have hxk := hx' k hlt
        have HX := Lib.hid hx'
        have HO := Lib.hid hown
        have HB := Lib.hid hb
        clear hx hx' hown hb
        go_wp2
        go_loop [6, 21] (fun r i => ∃ j : Nat, j ≤ n ∧ i = .int .i64 j ∧ r = .int .i64 ((1 + ((xs.take j).filter fun y => decide (xs[k]?.getD 0 < y)).length : Nat) : Int)) (fun _ i => n - (intOf i).toNat)
        case atStart => exact ⟨0, by omega, rfl, by simp⟩
        case round =>
          obtain ⟨j, hj, rfl, rfl⟩ := hrel
          have hle := rank_le xs j (xs[k]?.getD 0)
          by_cases hlj : j < n
          · have hxj := HX.out j hlj
            have hst := rank_step (x := xs[k]?.getD 0) (by rw [H1.out]; exact hlj : j < xs.length)
            generalize hg : ((xs.take j).filter fun y => decide (xs[k]?.getD 0 < y)).length = g at *
            have HS := Lib.hid hst
            clear hst hg
            go_wp2
            · have hlt' : xs[k]?.getD 0 < xs[j]?.getD 0 := by assumption
              go_round
              case rel => exact ⟨j + 1, by omega, by go_num, by rw [HS.out, if_pos hlt']; go_num⟩
              case measure => simp [intOf]; omega
            · have hlt' : ¬ xs[k]?.getD 0 < xs[j]?.getD 0 := by omega
              go_round
              case rel => exact ⟨j + 1, by omega, by go_num, by rw [HS.out, if_neg hlt']; go_num⟩
              case measure => simp [intOf]; omega
          · obtain rfl : j = n := by omega
            have hown := HO.out
            have hlen : ((xs.take k).map fun x => (rankOf xs x : Int)).length ≤ 40 := by rw [List.length_map, List.length_take]; omega
            have hbs := HB.out.size
            go_wp2_with (at_builtin; refine wp_append1 _ rfl (.tmp 31) (.tmp 33) rfl w.heap.size _ _ _ rfl hown rfl (by omega) (by omega) ?_; intro v' w1 hown1 hg1)
            have hb1 := below_append HB.out hg1 hown (Nat.le_refl _) hbs
            go_roundw
            case rel =>
              refine ⟨k + 1, by omega, by go_num, ?_, hb1⟩
              rw [map_take_succ _ (by rw [H1.out]; exact hlt)]
              have : List.take j xs = xs := List.take_of_length_le (by rw [H1.out]; exact Nat.le_refl _)
              rw [this] at hown1
              exact hown1
            case measure => simp [intOf]; omega
      · obtain rfl : k = n := by omega
        go_wp2
        go_ret
        refine ⟨_, rfl, ?_, hb⟩
        unfold rankL
        rw [if_pos (by rw [H1.out]; exact h40)]
        rwa [List.take_of_length_le (by rw [H1.out]; exact Nat.le_refl _)] at hown
  · have h40' : decide ((40 : Int) < (n : Int)) = true := by simp; omega
    go_enter Try.func17, Try.ntmps17
    go_wp2
    go_ret
    refine ⟨_, rfl, ?_, Below.refl _ _⟩
    unfold rankL
    rw [if_neg (by rw [H1.out]; exact h40)]
    exact Own.nil_ _ _
end Go.Proofs.Ytmcajbhillekjaa
