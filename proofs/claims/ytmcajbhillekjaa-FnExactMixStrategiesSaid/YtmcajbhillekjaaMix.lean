/- FnExactMixStrategies: gcd, lowest, Max, and the two functions. -/
import Derived.Test.YtmcajbhillekjaaApp
import Derived.Test.YtmcajbhillekjaaAllW
import Derived.Test.YtmcajbhillekjaaMarks
namespace Go.Proofs.Ytmcajbhillekjaa
open Go.RowKit

theorem snocInd {α : Type} {p : List α → Prop} (h0 : p []) (h1 : ∀ xs x, p xs → p (xs ++ [x])) (xs : List α) : p xs := by
  have h : ∀ ys : List α, p ys.reverse := by
    intro ys
    induction ys with
    | nil => exact h0
    | cons y ys ih => rw [List.reverse_cons]; exact h1 _ _ ih
  have := h xs.reverse
  rwa [List.reverse_reverse] at this
theorem gcd_step (x y : Nat) : Nat.gcd y (x % y) = Nat.gcd x y := by
  rw [Nat.gcd_comm y, ← Nat.gcd_rec, Nat.gcd_comm]

set_option maxHeartbeats 400000 in
theorem l10Gcd_any (a b : Nat) (w : World) (ha : a ≤ 4611686018427387904) (hb : b ≤ 4611686018427387904) :
    Calls Try.prog 57 #[.int .i64 a, .int .i64 b] w fun e w' => e = .returned (.int .i64 (Nat.gcd a b)) ∧ w = w' := by
  go_enter Try.func57, Try.ntmps57
  go_wp2
  go_loop [0, 1] (fun s t => ∃ x y : Nat, s = .int .i64 x ∧ t = .int .i64 y ∧ x ≤ 4611686018427387904 ∧ y ≤ 4611686018427387904 ∧ Hid (Nat.gcd x y = Nat.gcd a b)) (fun _ t => (intOf t).toNat)
  case atStart => exact ⟨a, b, rfl, rfl, ha, hb, rfl⟩
  case round =>
    obtain ⟨x, y, rfl, rfl, hx, hy, HG⟩ := hrel
    by_cases h0 : 0 < y
    · have hy1 : (1 : Int) ≤ (y : Int) := by omega
      have hlt := Nat.mod_lt x h0
      go_wp2
      go_round
      case rel => exact ⟨y, x % y, rfl, by go_num, hy, by omega, (gcd_step x y).trans HG.out⟩
      case measure => simp [intOf]; omega
    · obtain rfl : y = 0 := by omega
      go_wp2
      go_ret
      refine ⟨ret_int ?_, rfl⟩
      have := HG.out
      rw [Nat.gcd_zero_right] at this
      rw [this]

/-- the greatest common divisor of the numbers -/
def gcdL (xs : List Int) : Nat := xs.foldl (fun g x => Nat.gcd g x.toNat) 0
theorem gcdL_snoc (xs : List Int) (x : Int) : gcdL (xs ++ [x]) = Nat.gcd (gcdL xs) x.toNat := by simp [gcdL, List.foldl_append]
theorem gcdL_dvd (xs : List Int) : ∀ x ∈ xs, gcdL xs ∣ x.toNat := by
  refine snocInd (p := fun xs => ∀ x ∈ xs, gcdL xs ∣ x.toNat) (by simp) (fun xs y ih x hx => ?_) xs
  rw [gcdL_snoc]
  rw [List.mem_append, List.mem_singleton] at hx
  rcases hx with hx | rfl
  · exact Nat.dvd_trans (Nat.gcd_dvd_left _ _) (ih x hx)
  · exact Nat.gcd_dvd_right _ _
theorem gcdL_zero {xs : List Int} (h0 : ∀ x ∈ xs, 0 ≤ x) : gcdL xs = 0 ↔ ∀ x ∈ xs, x = 0 := by
  constructor
  · intro h x hx
    have h1 := gcdL_dvd xs x hx
    rw [h] at h1
    have h2 := Nat.eq_zero_of_zero_dvd h1
    have h3 := h0 x hx
    omega
  · refine snocInd (p := fun xs => (∀ x ∈ xs, x = 0) → gcdL xs = 0) (fun _ => rfl) (fun xs y ih h => ?_) xs
    rw [gcdL_snoc, ih (fun x hx => h x (by simp [hx])), h y (by simp)]
    rfl
def lowL (xs : List Int) : List Int := xs.map fun x => x / (gcdL xs : Int)
theorem gcd_le_bd {g n B : Nat} (hg : g ≤ B) (hn : n ≤ B) : Nat.gcd g n ≤ B := by
  rcases Nat.eq_zero_or_pos g with h | h
  · subst h; rw [Nat.gcd_zero_left]; exact hn
  · exact Nat.le_trans (Nat.gcd_le_left n h) hg
theorem gcdL_le {B : Nat} (xs : List Int) : (∀ x ∈ xs, x.toNat ≤ B) → gcdL xs ≤ B := by
  refine snocInd (p := fun xs => (∀ x ∈ xs, x.toNat ≤ B) → gcdL xs ≤ B) (fun _ => by simp [gcdL]) (fun xs y ih h => ?_) xs
  rw [gcdL_snoc]
  exact gcd_le_bd (ih fun x hx => h x (by simp [hx])) (h y (by simp))
theorem take_snoc {xs : List Int} {k : Nat} (hk : k < xs.length) : xs.take (k + 1) = xs.take k ++ [xs[k]?.getD 0] := by
  rw [List.take_succ_eq_append_getElem hk]
  simp [hk]

theorem map_take_succ' {xs : List Int} {k : Nat} (f : Int → Int) (hk : k < xs.length) : (xs.take (k + 1)).map f = (xs.take k).map f ++ [f (xs[k]?.getD 0)] := by
  rw [take_snoc hk, List.map_append]; rfl
set_option maxHeartbeats 1000000 in
theorem lowest_any (v : Value) (xs : List Int) (w : World) (h : Rd w v xs) (h0 : ∀ x ∈ xs, 0 ≤ x ∧ x ≤ 4611686018427387904) (hne : gcdL xs ≠ 0) (hlen : xs.length ≤ 1000000) :
    Calls Try.prog 59 #[v] w fun e w' => ∃ v', e = .returned v' ∧ Own w' w.heap.size v' (lowL xs) ∧ (Below w.heap.size w w' ∧ (xs ≠ [] → v' ≠ .slice none 0 0)) := by
  have HR := Lib.hid h
  obtain ⟨A, c, rfl, hl1, hm1, hc1⟩ := h
  unfold maxLen at hm1
  have HB0 := Lib.hid h0
  generalize hn : xs.length = n at *
  have H1 := Lib.hid hn
  have H3 := Lib.hid hc1
  clear hn hc1 h0
  go_enter Try.func59, Try.ntmps59
  go_wp2
  go_loopw [3, 11] (fun s i wr => ∃ k q : Nat, k ≤ n ∧ i = .int .i64 k ∧ s = .int .i64 (gcdL (xs.take k)) ∧ wr = w.drewN q) (fun _ i _ => n - (intOf i).toNat)
  case atStart => exact ⟨0, 0, by omega, rfl, rfl, rfl⟩
  case round =>
    obtain ⟨k, q, hk, rfl, rfl, rfl⟩ := hrel
    by_cases hlt : k < n
    · obtain ⟨b, off, rfl, hbb, hx⟩ := H3.out (by omega)
      have hxk := hx k hlt
      have hbd := HB0.out (xs[k]?.getD 0) (by rw [List.getElem?_eq_getElem (by rw [H1.out]; exact hlt)]; exact List.getElem_mem _)
      have hgb : gcdL (xs.take k) ≤ 4611686018427387904 := gcdL_le _ fun x hx => by have := HB0.out x (List.mem_of_mem_take hx); omega
      have hst := take_snoc (by rw [H1.out]; exact hlt : k < xs.length)
      have hgs : gcdL (xs.take (k + 1)) = Nat.gcd (gcdL (xs.take k)) (xs[k]?.getD 0).toNat := by rw [hst, gcdL_snoc]
      have HG := Lib.hid hgs
      clear hx hst hgs
      generalize hg : gcdL (xs.take k) = g at *
      have HGG := Lib.hid hg
      clear hg
      obtain ⟨y, hy⟩ : ∃ y : Nat, xs[k]?.getD 0 = (y : Int) := ⟨(xs[k]?.getD 0).toNat, by omega⟩
      have hxk' : w.cell? ⟨b, off + k, none⟩ = some (.int .i64 (y : Int)) := by rw [hxk, List.getD_eq_getElem?_getD, hy]
      rw [hy] at hbd
      have HG' : Hid (gcdL (xs.take (k + 1)) = Nat.gcd g y) := by have := HG.out; rw [hy] at this; exact this
      clear hxk hy HG
      go_wp2
      go_loopw [3, 5] (fun s t wr => ∃ x z q : Nat, s = .int .i64 x ∧ t = .int .i64 z ∧ x ≤ 4611686018427387904 ∧ z ≤ 4611686018427387904 ∧ wr = w.drewN q ∧ Hid (Nat.gcd x z = Nat.gcd g y)) (fun _ t _ => (intOf t).toNat)
      case atStart => exact ⟨g, y, q, rfl, rfl, hgb, by omega, rfl, rfl⟩
      case round =>
        obtain ⟨x, z, q', rfl, rfl, hx, hz, rfl, HE⟩ := hrel
        by_cases h0 : 0 < z
        · have hz1 : (1 : Int) ≤ (z : Int) := by omega
          have hzne : ((z : Int) != 0) = true := by simp; omega
          have hlt' := Nat.mod_lt x h0
          go_wp2
          go_region
          all_goals
            go_wp2
            go_roundw
            case rel => exact ⟨z, x % z, q' + 1, rfl, by go_num, hz, by omega, rfl, (gcd_step x z).trans HE.out⟩
            case measure => simp [intOf]; omega
        · obtain rfl : z = 0 := by omega
          go_wp2
          go_roundw
          case rel =>
            refine ⟨k + 1, q', by omega, by go_num, ?_, rfl⟩
            have := HE.out
            rw [Nat.gcd_zero_right] at this
            rw [HG'.out, this]
          case measure => simp [intOf]; omega
    · obtain rfl : k = n := by omega
      have ht : xs.take k = xs := List.take_of_length_le (by rw [H1.out]; exact Nat.le_refl _)
      have hg1 : 1 ≤ gcdL xs := by omega
      have hgb : gcdL xs ≤ 4611686018427387904 := gcdL_le _ fun x hx => by have := HB0.out x hx; omega
      rw [ht]
      have HGX := Lib.hid (rfl : gcdL xs = gcdL xs)
      have HLW : Hid (lowL xs = xs.map fun x => x / (gcdL xs : Int)) := rfl
      clear hne
      generalize hg : gcdL xs = g at *
      clear hg HGX
      go_wp2
      go_loopw [6, 24] (fun s i wr => ∃ j : Nat, j ≤ k ∧ i = .int .i64 j ∧ Own wr w.heap.size s ((xs.take j).map fun x => x / (g : Int)) ∧ (0 < j → s ≠ .slice none 0 0) ∧ Below w.heap.size w wr) (fun _ i _ => k - (intOf i).toNat)
      case atStart => exact ⟨0, by omega, rfl, Own.nil_ _ _, fun h => absurd h (by omega), below_drewN (Below.refl _ _) _⟩
      case round =>
        obtain ⟨j, hj, rfl, hown, hnn, hb⟩ := hrel
        by_cases hlt' : j < k
        · obtain ⟨b, off, rfl, hbb, hx⟩ := H3.out (by omega)
          have hxj : wr.cell? ⟨b, off + j, none⟩ = some (.int .i64 (xs.getD j 0)) := (hb.cell (by exact hbb)).trans (hx j hlt')
          have hbd := HB0.out (xs[j]?.getD 0) (by rw [List.getElem?_eq_getElem (by rw [H1.out]; exact hlt')]; exact List.getElem_mem _)
          have hl2 : ((xs.take j).map fun x => x / (g : Int)).length ≤ 1000000 := by rw [List.length_map, List.length_take]; omega
          have hbs := hb.size
          have HO := Lib.hid hown
          have HB := Lib.hid hb
          have HNN := Lib.hid hnn
          clear hx hown hb hnn
          go_wp2_with (at_builtin; refine wp_append1 _ rfl (.tmp 28) (.tmp 32) rfl w.heap.size _ _ _ rfl HO.out rfl (by omega) (by omega) ?_; intro v' w1 hown1 hg1)
          have hb1 := below_append HB.out hg1 HO.out (Nat.le_refl _) hbs
          go_roundw
          case rel =>
            refine ⟨j + 1, by omega, by go_num, ?_, fun _ => ?_, hb1⟩
            · rw [map_take_succ' _ (by rw [H1.out]; exact hlt')]
              exact hown1
            · rintro rfl
              rcases hown1.2 with ⟨_, h2⟩ | ⟨_, _, _, h2, _⟩
              · simp at h2
              · cases h2
          case measure => simp [intOf]; omega
        · obtain rfl : j = k := by omega
          go_wp2
          go_ret
          refine ⟨_, rfl, ?_, hb, fun hne => hnn ?_⟩
          · rw [HLW.out]
            rwa [ht] at hown
          · have : xs.length ≠ 0 := fun h => hne (List.eq_nil_of_length_eq_zero h)
            rw [H1.out] at this
            omega
end Go.Proofs.Ytmcajbhillekjaa
