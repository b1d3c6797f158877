/- Texts put together: SfI, SfQ, SfS, SfN, SsI, SsS, SsF, SfX, LSafeStrategy. -/
import Derived.Test.YtajeledbmnndmaaMXSafeStrategy05
import Derived.Test.YtajeledbmnndmaaMXSafeStrategy04
import Derived.Test.YtajeledbmnndmaaMXSafeStrategy02
import Derived.Test.YtajeledbmnndmaaMXSafeStrategy03
import Derived.Deep.RegionHeld3
import Derived.Deep.DeepCutAuto
namespace Go.Proofs.Ytajeledbmnndmaa
open Go.RowKit Go.Sort
set_option maxRecDepth 100000
/-- the weights of a set -/
def sfV (xs : List Int) (n S : Nat) : List Int := lowL (evV xs (memN S n) n)
/-- a set's weights exist and are safe -/
noncomputable def sfG (xs : List Int) (n S : Nat) : Bool := decide ((memN S n).length % 2 = 1) && evG xs (memN S n) n && safeB n xs (sfV xs n S)
theorem evenOn_all (n : Nat) (sl : Value) (xs : List Int) (hp : tourP n xs) (l : List Nat) (v : Value) (w : World) (h7 : l.length ≤ 7) (hnd : l.Nodup) (hm : ∀ x ∈ l, x < n) (h : Rd w sl xs) (hv : Rd w v (nI l)) :
    Calls Try.prog 73 #[.agg #[.int .i64 n, sl], v] w fun e w' => ∃ v', e = .returned v' ∧ ((decide (l.length % 2 = 1) && evG xs l n) = true → Own w' w.heap.size v' (lowL (evV xs l n)) ∧ v' ≠ .slice none 0 0) ∧ ((decide (l.length % 2 = 1) && evG xs l n) = false → v' = .slice none 0 0) ∧ Below w.heap.size w w' := by
  rcases Nat.mod_two_eq_zero_or_one l.length with e | e
  · refine (evenOn_even n sl xs hp l v w h7 h hv e).mono ?_
    rintro r w' ⟨rfl, hb⟩
    exact ⟨_, rfl, fun h => absurd h (by rw [e]; simp), fun _ => rfl, hb⟩
  · refine (evenOn_any n sl xs hp l v w h7 (by omega) hnd hm h hv e).mono ?_
    rintro r w' ⟨v', rfl, h1, h2, hb⟩
    exact ⟨_, rfl, fun h => h1 (by rw [e] at h; simpa using h), fun h => h2 (by rw [e] at h; simpa using h), hb⟩
set_option maxHeartbeats 4000000 in
theorem implSafeS (n : Nat) (sl : Value) (xs : List Int) (hp : tourP n xs) (h7 : n ≤ 7) (w : World) (h : Rd w sl xs) :
    Calls Try.prog 12 #[.agg #[.int .i64 n, sl]] w fun e w' => ∃ v' b, e = .returned (.tuple #[v', .bool b]) ∧ (∀ S, 1 ≤ S → S < 2 ^ n → sfG xs n S = true → (∀ T, 1 ≤ T → T < S → sfG xs n T = false) → b = true ∧ Own w' w.heap.size v' (sfV xs n S)) ∧ ((∀ S, 1 ≤ S → S < 2 ^ n → sfG xs n S = false) → b = false ∧ v' = .slice none 0 0) ∧ Below w.heap.size w w' := by
  have HR := Lib.hid h
  have HP := Lib.hid hp
  have q0 : tourB n xs = true := tourB_true.2 hp
  have hln := tour_len hp
  have h1n : 1 ≤ n := by have := hp.1; omega
  have h256 : 2 ^ n ≤ 128 := Nat.pow_le_pow_right (n := 2) (j := 7) (by decide) h7
  have hsh := shl_nat n (by omega)
  obtain ⟨Q, hQ⟩ : ∃ Q, Q = 2 ^ n := ⟨_, rfl⟩
  have HQ := Lib.hid hQ
  have hQ1 : 1 ≤ Q := by rw [hQ]; exact Nat.one_le_two_pow
  rw [← hQ] at h256 hsh ⊢
  obtain ⟨A, c, rfl, -, hcm, -⟩ := h
  unfold maxLen at hcm
  rw [hln] at HR ⊢
  clear hp hln hQ
  go_enter Try.func12, Try.ntmps12
  go_wp2_with fail
  have b0 := below_alloc1 w (.cells #[.int .i64 n, .slice A n c] 28)
  have x0 := TBox.new w n (.slice A n c) 28
  generalize w.alloc (.cells #[.int .i64 n, .slice A n c] 28) = w0 at *
  have HX0 := Lib.hid x0
  have HB0 := Lib.hid b0
  clear x0 b0
  have y0_0 := HX0.out.1
  have y1_0 := HX0.out.2
  go_wp2_with fail
  refine (implTourOk n _ xs _ (HR.out.below HB0.out)).mono ?_
  rintro e w1 ⟨rfl, hb⟩
  have HX1 := Lib.hid (HX0.out.below hb)
  have HB1 := Lib.hid (Below.then HB0.out hb)
  clear hb HX0 HB0 y0_0 y1_0
  have y0_1 := HX1.out.1
  have y1_1 := HX1.out.2
  rw [q0]
  have HSH := Lib.hid hsh
  clear hsh
  go_wp2
  go_loopw [4] (fun t4 wr => ∃ (k : Nat), k + 1 ≤ Q ∧ t4 = .int .i64 ((k + 1 : Nat) : Int) ∧ Hid (∀ T, 1 ≤ T → T ≤ k → sfG xs n T = false) ∧ Hid (TBox wr w.heap.size n (.slice A n c)) ∧ Hid (Below w.heap.size w wr)) (fun t4 _ => Q - (intOf t4).toNat)
  case atStart => exact ⟨0, by omega, rfl, Lib.hid (fun T h1 h2 => by omega), HX1, HB1⟩
  case round =>
    obtain ⟨k, hk, rfl, HF, HX, HB⟩ := hrel
    clear HX1 HB1 y0_1 y1_1
    have y0 := HX.out.1
    have y1 := HX.out.2
    have hsh := HSH.out
    by_cases hlt : k + 1 < Q
    · have hlti : ((k + 1 : Nat) : Int) < (Q : Int) := by omega
      have hMeas : Q - (k + 1 + 1) < Q - (k + 1) := by omega
      have hk2 : k + 1 + 1 ≤ Q := hlt
      have HS2 : Hid (k + 1 < 2 ^ n) := Lib.hid (by rw [← HQ.out]; exact hlt)
      have HST : Hid (sfG xs n (k + 1) = (decide ((memN (k + 1) n).length % 2 = 1) && evG xs (memN (k + 1) n) n && safeB n xs (lowL (evV xs (memN (k + 1) n) n)))) := Lib.hid rfl
      have HF : Hid (∀ T, 1 ≤ T → T < k + 1 → sfG xs n T = false) := Lib.hid fun T h1 h2 => HF.out T h1 (by omega)
      have HK1 : Hid (1 ≤ k + 1) := Lib.hid (by omega)
      have HNX : Hid (sfG xs n (k + 1) = false → ∀ T, 1 ≤ T → T ≤ k + 1 → sfG xs n T = false) := Lib.hid fun hz T h1 h2 => by
        rcases Nat.lt_or_ge T (k + 1) with h3 | h3
        · exact HF.out T h1 h3
        · obtain rfl : T = k + 1 := by omega
          exact hz
      generalize hKK : k + 1 = K at *
      go_wp2_with fail
      have HEV : Hid (∀ v3 w3, Rd w3 (.slice A n c) xs → Rd w3 v3 (nI (memN K n)) → Calls Try.prog 73 #[.agg #[.int .i64 n, .slice A n c], v3] w3 fun e w' => ∃ v', e = .returned v' ∧ ((decide ((memN K n).length % 2 = 1) && evG xs (memN K n) n) = true → Own w' w3.heap.size v' (lowL (evV xs (memN K n) n)) ∧ v' ≠ .slice none 0 0) ∧ ((decide ((memN K n).length % 2 = 1) && evG xs (memN K n) n) = false → v' = .slice none 0 0) ∧ Below w3.heap.size w3 w') := Lib.hid fun v3 w3 h1 h2 =>
        evenOn_all n (.slice A n c) xs HP.out (memN K n) v3 w3 (by have := memN_len K n; omega) (memN_nodup K n) (fun x hx => (mem_memN.1 hx).1) h1 h2
      clear hsh
      generalize (decide ((memN K n).length % 2 = 1) && evG xs (memN K n) n) = G at *
      have HVL : Hid ((lowL (evV xs (memN K n) n)).length = n) := Lib.hid (by unfold lowL; rw [List.length_map, evV_len])
      have HVE : Hid (sfV xs n K = lowL (evV xs (memN K n) n)) := Lib.hid rfl
      generalize lowL (evV xs (memN K n) n) = V at *
      have BD := Lib.hid (show Below w.heap.size w wr.drew from HB.out.drew)
      have HXd := Lib.hid (show TBox wr.drew w.heap.size n (.slice A n c) from HX.out)
      go_region_held3 (fun W => W.cell? ⟨w.heap.size, 0, none⟩ = some (.int .i64 n) ∧ W.cell? ⟨w.heap.size, 1, none⟩ = some (.slice A n c))
        (first | exact ⟨y0, y1⟩ | exact HXd.out | exact HX5.out | exact HX6.out)
        (first
          | (go_at_call 73; refine (HEV.out _ w5 (HR.out.below HB5.out) HO5.out.rd).mono ?_; rintro e w6 ⟨v6, rfl, h61, h62, hb6⟩; have HX6 := Lib.hid (HX5.out.below hb6); have HB6 := Lib.hid (Below.then HB5.out hb6); have H61 := Lib.hid h61; have H62 := Lib.hid h62; clear h61 h62 hb6)
          | (go_at_call 74; refine (membersOf_any K n wr.drew HS2.out (by omega)).mono ?_; rintro e w5 ⟨v5, rfl, ho5, hb5⟩; have HX5 := Lib.hid (HXd.out.below hb5); have HB5 := Lib.hid (Below.then BD.out hb5); have HO5 := Lib.hid ho5; clear ho5 hb5))
      rcases hG : G with _ | _
      · obtain rfl := H62.out hG
        have HFA : Hid (sfG xs n K = false) := Lib.hid (by rw [HST.out, hG]; rfl)
        clear HEV
        go_wp2
        go_roundw
        case rel => exact ⟨K, hk2, by go_num, Lib.hid (HNX.out HFA.out), HX6, HB6⟩
        case measure => simp [intOf]; omega
      · have ho6 := (H61.out hG).1
        have hn6 := (H61.out hG).2
        obtain ⟨g6, c6, rfl, -⟩ := ho6.at_ HVL.out h1n
        have HSB := Lib.hid (implIsSafe n (.slice A n c) xs _ V w6 (HR.out.below HB6.out) ho6.rd)
        have HO6 := Lib.hid ho6
        have HSZ := Lib.hid HB5.out.size
        have z60 := HX6.out.1
        have z61 := HX6.out.2
        rw [hG, Bool.true_and] at HST
        clear HEV HO5 HX5 ho6 hn6 H61 H62 HXd BD HX
        go_wp2_with fail
        refine HSB.out.mono ?_
        rintro e w7 ⟨rfl, hb7⟩
        have HX7 := Lib.hid (HX6.out.below hb7)
        have HB7 := Lib.hid (Below.then HB6.out hb7)
        have HO7 := Lib.hid (HO6.out.below hb7)
        clear hb7 HX6 HB6 HO6 HSB z60 z61
        rcases hs : safeB n xs V with _ | _
        · have HFA : Hid (sfG xs n K = false) := Lib.hid (by rw [HST.out, hs])
          go_wp2
          go_roundw
          case rel => exact ⟨K, hk2, by go_num, Lib.hid (HNX.out HFA.out), HX7, HB7⟩
          case measure => simp [intOf]; omega
        · have HTR : Hid (sfG xs n K = true) := Lib.hid (by rw [HST.out, hs])
          go_wp2
          go_ret2
          refine ⟨_, _, rfl, fun S h1 h2 h3 h4 => ⟨rfl, ?_⟩, fun h => ?_, HB7.out⟩
          · have e : S = K := by
              rcases Nat.lt_trichotomy S K with h5 | h5 | h5
              · rw [HF.out S h1 h5] at h3; exact absurd h3 (by decide)
              · exact h5
              · rw [h4 K HK1.out h5] at HTR; exact absurd HTR.out (by decide)
            rw [e, HVE.out]
            have ho := HO7.out.mono HSZ.out
            exact ho
          · rw [h K HK1.out hlt] at HTR; exact absurd HTR.out (by decide)
    · obtain rfl : k + 1 = Q := by omega
      have hsh := HSH.out
      go_wp2
      go_ret2
      refine ⟨_, _, rfl, fun S h1 h2 h3 _ => ?_, fun _ => ⟨rfl, rfl⟩, HB.out⟩
      rw [HF.out S h1 (by omega)] at h3
      exact absurd h3 (by decide)
end Go.Proofs.Ytajeledbmnndmaa

namespace Go.Proofs.Ytajeledbmnndmaa
set_option maxRecDepth 100000
theorem memN_wide {S n : Nat} (hS : S < 2 ^ n) : ∀ d, memN S (n + d) = memN S n := by
  intro d
  induction d with
  | zero => rfl
  | succ d ih =>
    have h1 : S < 2 ^ (n + d) := Nat.lt_of_lt_of_le hS (Nat.pow_le_pow_right (by decide) (by omega))
    have h2 : S.testBit (n + d) = false := Nat.testBit_lt_two_pow h1
    rw [← ih]
    unfold memN
    rw [show n + (d + 1) = n + d + 1 by omega, List.range_succ, List.filter_append]
    simp [h2]
theorem pop_memN {S n : Nat} (hS : S < 2 ^ n) (hn : n ≤ 8) : popN 8 S = (memN S n).length := by
  have h1 : S < 256 := Nat.lt_of_lt_of_le hS (Nat.pow_le_pow_right (n := 2) (j := 8) (by decide) hn)
  rw [pop_mem h1, ← memN_wide hS (8 - n), show n + (8 - n) = 8 by omega]
theorem evV_pos {n : Nat} {xs : List Int} {l : List Nat} (hp : tourP n xs) (hl : l.length % 2 = 1) (h7 : l.length ≤ 7) (hnd : l.Nodup) (hm : ∀ x ∈ l, x < n) (hG : evG xs l n = true) : (∀ a, a ∈ l → 0 < (evV xs l n).getD a 0) ∧ ∀ x ∈ evV xs l n, 0 ≤ x ∧ x ≤ 15 := by
  have h1 : ∀ a, a ∈ l → 0 < (evV xs l n).getD a 0 := fun a ha => by
    unfold evG at hG
    rw [List.all_eq_true] at hG
    simpa using hG a ha
  refine ⟨h1, fun x hx => ?_⟩
  obtain ⟨j, hj, rfl⟩ := List.getElem_of_mem hx
  have hb := evV_bd (evK_bd hp hl h7 hnd hm l.length (Nat.le_refl _)) j
  have e : (evV xs l n).getD j 0 = (evV xs l n)[j] := by simp [hj]
  rw [e] at hb
  by_cases hjl : j ∈ l
  · have := h1 j hjl
    rw [e] at this
    omega
  · have := evV_out (xs := xs) (n := n) hjl
    rw [e] at this
    omega
/-- the lowest weights -/
theorem low_pos {n : Nat} {xs : List Int} {l : List Nat} (hp : tourP n xs) (hl : l.length % 2 = 1) (h7 : l.length ≤ 7) (hnd : l.Nodup) (hm : ∀ x ∈ l, x < n) (hG : evG xs l n = true) :
    (lowL (evV xs l n)).length = n ∧ (∀ a, a ∈ l → 0 < (lowL (evV xs l n)).getD a 0) ∧ (∀ a, a ∉ l → (lowL (evV xs l n)).getD a 0 = 0) ∧ ∀ x ∈ lowL (evV xs l n), 0 ≤ x ∧ x ≤ 15 := by
  obtain ⟨h1, h2⟩ := evV_pos hp hl h7 hnd hm hG
  have hlen : (lowL (evV xs l n)).length = n := by unfold lowL; rw [List.length_map, evV_len]
  have hat : ∀ a, a < n → (lowL (evV xs l n)).getD a 0 = (evV xs l n).getD a 0 / (gcdL (evV xs l n) : Int) := fun a ha => by
    have : a < (evV xs l n).length := by rw [evV_len]; exact ha
    unfold lowL
    simp [List.getD_eq_getElem?_getD, this]
  refine ⟨hlen, fun a ha => ?_, fun a ha => ?_, fun x hx => ?_⟩
  · have hb : a < (evV xs l n).length := by rw [evV_len]; exact hm a ha
    have h3 := h1 a ha
    rw [hat a (hm a ha)]
    have e : (evV xs l n).getD a 0 = (evV xs l n)[a] := by simp [hb]
    have hd := gcdL_dvd (evV xs l n) _ (List.getElem_mem hb)
    rw [← e] at hd
    generalize (evV xs l n).getD a 0 = x at *
    generalize gcdL (evV xs l n) = g at *
    obtain ⟨q, hq⟩ := hd
    have hg : 0 < g := Nat.pos_of_ne_zero fun h => by subst h; simp at hq; omega
    have hq0 : 0 < q := Nat.pos_of_ne_zero fun h => by subst h; simp at hq; omega
    have hx : x = (g : Int) * (q : Int) := by rw [← Int.natCast_mul, ← hq]; omega
    rw [hx, Int.mul_ediv_cancel_left _ (by omega)]
    omega
  · by_cases hn : a < n
    · rw [hat a hn, evV_out ha]; exact Int.zero_ediv _
    · rw [List.getD_eq_getElem?_getD, List.getElem?_eq_none (by omega)]; rfl
  · unfold lowL at hx
    obtain ⟨y, hy, rfl⟩ := List.mem_map.1 hx
    obtain ⟨h3, h4⟩ := h2 y hy
    generalize gcdL (evV xs l n) = g
    refine ⟨Int.ediv_nonneg h3 (by omega), ?_⟩
    have := Int.ediv_le_self (b := (g : Int)) h3
    omega
theorem low_strat {n : Nat} {xs : List Int} {l : List Nat} (hp : tourP n xs) (hl : l.length % 2 = 1) (h7 : l.length ≤ 7) (hnd : l.Nodup) (hm : ∀ x ∈ l, x < n) (hG : evG xs l n = true) : stratB n xs (lowL (evV xs l n)) = true := by
  obtain ⟨h1, h2, h3, h4⟩ := low_pos hp hl h7 hnd hm hG
  refine stratB_true.2 ⟨hp, by rw [h1], fun x hx => by have := h4 x hx; omega, (sum_pos fun x hx => (h4 x hx).1).2.2 ?_⟩
  have h0 : 0 < l.length := by omega
  have ha := h2 (l.getD 0 0) (by rw [getD_nat h0]; exact List.getElem_mem _)
  have hb : l.getD 0 0 < (lowL (evV xs l n)).length := by rw [h1]; exact hm _ (by rw [getD_nat h0]; exact List.getElem_mem _)
  refine ⟨(lowL (evV xs l n))[l.getD 0 0], List.getElem_mem hb, fun e => ?_⟩
  rw [List.getD_eq_getElem?_getD (l := lowL _), List.getElem?_eq_getElem hb] at ha
  have : 0 < (lowL (evV xs l n))[l.getD 0 0] := ha
  omega
/-- weights that are laid at their players, the first k of the list -/
def spK (V : List Int) (l : List Nat) (n : Nat) : Nat → List Int
  | 0 => List.replicate n 0
  | k + 1 => (spK V l n k).set (l.getD k 0) (V.getD (l.getD k 0) 0)
theorem spK_len (V : List Int) (l : List Nat) (n k : Nat) : (spK V l n k).length = n := by
  induction k with
  | zero => simp [spK]
  | succ k ih => simp [spK, ih]
theorem spK_at {V : List Int} {l : List Nat} {n : Nat} {a : Nat} (ha : a < n) : ∀ k, k ≤ l.length → (spK V l n k).getD a 0 = if a ∈ l.take k then V.getD a 0 else 0 := by
  intro k
  induction k with
  | zero => intro _; simp [spK, ha]
  | succ k ih =>
    intro hk
    simp only [spK]
    rw [List.getD_eq_getElem?_getD, List.getElem?_set]
    have e : l.take (k + 1) = l.take k ++ [l.getD k 0] := by rw [List.take_succ_eq_append_getElem (by omega), getD_nat (by omega)]
    rw [e]
    by_cases q : l.getD k 0 = a
    · rw [if_pos q, q, if_pos (by rw [spK_len]; exact ha), if_pos (by simp)]; rfl
    · rw [if_neg q, ← List.getD_eq_getElem?_getD, ih (by omega)]
      by_cases h : a ∈ l.take k
      · rw [if_pos h, if_pos (by simp [h])]
      · rw [if_neg h, if_neg (by simp only [List.mem_append, List.mem_singleton]; rintro (h1 | h1); exact h h1; exact q h1.symm)]
theorem spK_all {V : List Int} {l : List Nat} {n : Nat} (hl : V.length = n) (h0 : ∀ a, a ∉ l → V.getD a 0 = 0) : spK V l n l.length = V := ints_ext (by rw [spK_len, hl]) fun a ha => by
  rw [spK_len] at ha
  rw [spK_at ha l.length (Nat.le_refl _), List.take_length]
  split
  · rfl
  · rename_i h; exact (h0 a h).symm
end Go.Proofs.Ytajeledbmnndmaa

namespace Go.Proofs.Ytajeledbmnndmaa
open Go.RowKit Go.Sort
set_option maxRecDepth 100000
set_option maxHeartbeats 4000000 in
theorem specSafeS (n : Nat) (sl : Value) (xs : List Int) (hp : tourP n xs) (h7 : n ≤ 7) (w : World) (h : Rd w sl xs) :
    Calls Try.prog 10 #[.agg #[.int .i64 n, sl]] w fun e w' => ∃ v' b, e = .returned (.tuple #[v', .bool b]) ∧ (∀ S, 1 ≤ S → S < 2 ^ n → sfG xs n S = true → (∀ T, 1 ≤ T → T < S → sfG xs n T = false) → b = true ∧ Own w' w.heap.size v' (sfV xs n S)) ∧ ((∀ S, 1 ≤ S → S < 2 ^ n → sfG xs n S = false) → b = false ∧ v' = .slice none 0 0) ∧ Below w.heap.size w w' := by
  have HR := Lib.hid h
  have HP := Lib.hid hp
  have q0 : tourB n xs = true := tourB_true.2 hp
  have hln := tour_len hp
  have h1n : 1 ≤ n := by have := hp.1; omega
  have h256 : 2 ^ n ≤ 128 := Nat.pow_le_pow_right (n := 2) (j := 7) (by decide) h7
  obtain ⟨Q, hQ⟩ : ∃ Q, Q = 2 ^ n := ⟨_, rfl⟩
  have HQ := Lib.hid hQ
  have hQ1 : 1 ≤ Q := by rw [hQ]; exact Nat.one_le_two_pow
  rw [← hQ] at h256 ⊢
  obtain ⟨A, c, rfl, -, hcm, -⟩ := h
  unfold maxLen at hcm
  rw [hln] at HR ⊢
  have HLN := Lib.hid hln
  clear hp hln hQ
  go_enter Try.func10, Try.ntmps10
  go_wp2_with fail
  have b0 := below_alloc1 w (.cells #[.int .i64 n, .slice A n c] 28)
  have x0 := TBox.new w n (.slice A n c) 28
  generalize w.alloc (.cells #[.int .i64 n, .slice A n c] 28) = w0 at *
  have HX0 := Lib.hid x0
  have HB0 := Lib.hid b0
  clear x0 b0
  have y0_0 := HX0.out.1
  have y1_0 := HX0.out.2
  go_wp2_with fail
  refine (specTourOk n _ xs _ (HR.out.below HB0.out)).mono ?_
  rintro e w1 ⟨rfl, hb⟩
  have HX1 := Lib.hid (HX0.out.below hb)
  have HB1 := Lib.hid (Below.then HB0.out hb)
  clear hb HX0 HB0 y0_0 y1_0
  have y0_1 := HX1.out.1
  have y1_1 := HX1.out.2
  rw [q0]
  go_wp2
  go_loopw [4] (fun t4 wr => ∃ (k : Nat), k + 1 ≤ Q ∧ t4 = .int .i64 ((k + 1 : Nat) : Int) ∧ Hid (∀ T, 1 ≤ T → T ≤ k → sfG xs n T = false) ∧ Hid (TBox wr w.heap.size n (.slice A n c)) ∧ Hid (Below w.heap.size w wr)) (fun t4 _ => Q - (intOf t4).toNat)
  case atStart => exact ⟨0, by omega, rfl, Lib.hid (fun T h1 h2 => by omega), HX1, HB1⟩
  case round =>
    obtain ⟨wo, rfl⟩ : ∃ x, x = wr := ⟨_, rfl⟩
    obtain ⟨k, hk, rfl, HF, HX, HB⟩ := hrel
    clear HX1 HB1 y0_1 y1_1
    have y0 := HX.out.1
    have y1 := HX.out.2
    have hall := l02All_any n (.slice A n c)
    rw [← HQ.out] at hall
    have HAL := Lib.hid hall
    clear hall
    by_cases hlt : k + 1 < Q
    · as_aux_lemma =>
      have hlti : ((k + 1 : Nat) : Int) ≤ ((Q - 1 : Nat) : Int) := by omega
      have hMeas : Q - (k + 1 + 1) < Q - (k + 1) := by omega
      have hk2 : k + 1 + 1 ≤ Q := hlt
      have HS2 : Hid (k + 1 < 2 ^ n) := Lib.hid (by rw [← HQ.out]; exact hlt)
      have HST : Hid (sfG xs n (k + 1) = (decide ((memN (k + 1) n).length % 2 = 1) && evG xs (memN (k + 1) n) n && safeB n xs (sfV xs n (k + 1)))) := Lib.hid rfl
      have HF : Hid (∀ T, 1 ≤ T → T < k + 1 → sfG xs n T = false) := Lib.hid fun T h1 h2 => HF.out T h1 (by omega)
      have HK1 : Hid (1 ≤ k + 1) := Lib.hid (by omega)
      have HNX : Hid (sfG xs n (k + 1) = false → ∀ T, 1 ≤ T → T ≤ k + 1 → sfG xs n T = false) := Lib.hid fun hz T h1 h2 => by
        rcases Nat.lt_or_ge T (k + 1) with h3 | h3
        · exact HF.out T h1 h3
        · obtain rfl : T = k + 1 := by omega
          exact hz
      generalize hKK : k + 1 = K at *
      have hK8 : K < 256 := by omega
      have HPOP := Lib.hid (pop_memN HS2.out (by omega))
      have hml := memN_len K n
      go_wp2_with fail
      refine (HAL.out wo (by omega)).mono ?_
      rintro e w1 ⟨rfl, hb1⟩
      have HX1 := Lib.hid (HX.out.below hb1)
      have HB1 := Lib.hid (Below.then HB.out hb1)
      clear hb1 y0 y1 HX HB HAL
      have y0 := HX1.out.1
      have y1 := HX1.out.2
      have hpb : popN 8 K ≤ 7 := by rw [HPOP.out]; omega
      have LB := Lib.hid (l02Bits_any K w1 hK8)
      generalize popN 8 K = P at *
      have er : Int.tmod (P : Int) 2 = ((P % 2 : Nat) : Int) := by rw [Int.tmod_eq_emod_of_nonneg (by omega)]; omega
      have er2 : (P : Int) % 2 = ((P % 2 : Nat) : Int) := by omega
      rcases Nat.mod_two_eq_zero_or_one P with hpar | hpar
      · as_aux_lemma =>
        rw [hpar] at er er2
        have HFA : Hid (sfG xs n K = false) := Lib.hid (by
          rw [HST.out, decide_eq_false (by rw [← HPOP.out]; omega)]; rfl)
        go_wp2_with fail
        refine LB.out.mono ?_
        rintro e wz ⟨rfl, rfl⟩
        go_wp2
        go_roundw
        case rel => exact ⟨K, hk2, by go_num, Lib.hid (HNX.out HFA.out), HX1, HB1⟩
        case measure => simp [intOf]; omega
      · as_aux_lemma =>
        rw [hpar] at er er2
        have hodd : (memN K n).length % 2 = 1 := by rw [← HPOP.out]; exact hpar
        have HODD := Lib.hid hodd
        rw [decide_eq_true hodd, Bool.true_and] at HST
        have HML := Lib.hid hml
        have HMM : Hid (∀ x ∈ memN K n, x < n) := Lib.hid fun x hx => (mem_memN.1 hx).1
        have HND := Lib.hid (memN_nodup K n)
        have HLW : Hid (evG xs (memN K n) n = true → (lowL (evV xs (memN K n) n)).length = n ∧ stratB n xs (lowL (evV xs (memN K n) n)) = true ∧ spK (lowL (evV xs (memN K n) n)) (memN K n) n (memN K n).length = lowL (evV xs (memN K n) n)) := Lib.hid fun hG => by
          obtain ⟨h1, h2, h3, h4⟩ := low_pos HP.out HODD.out (by have := HML.out; omega) HND.out HMM.out hG
          exact ⟨h1, low_strat HP.out HODD.out (by have := HML.out; omega) HND.out HMM.out hG, spK_all h1 h3⟩
        have HKR : Hid (krL xs (memN K n) n = (memN K n).map fun a => (lowL (evV xs (memN K n) n)).getD a 0) := Lib.hid rfl
        have HSV : Hid (sfV xs n K = lowL (evV xs (memN K n) n)) := Lib.hid rfl
        have HKE : Hid (∀ v3 w3, Rd w3 (.slice A n c) xs → Rd w3 v3 (nI (memN K n)) → Calls Try.prog 69 #[.agg #[.int .i64 n, .slice A n c], v3] w3 fun e w' => ∃ v' b, e = .returned (.tuple #[v', .bool b]) ∧ (evG xs (memN K n) n = true → b = true ∧ Own w' w3.heap.size v' (krL xs (memN K n) n)) ∧ (evG xs (memN K n) n = false → b = false) ∧ Below w3.heap.size w3 w') := Lib.hid fun v3 w3 h1 h2 =>
          kernel_any n (.slice A n c) xs HP.out (memN K n) v3 w3 (by have := HML.out; omega) HODD.out HND.out HMM.out h1 h2
        rw [HSV.out] at HST
        clear hodd hml
        go_wp2_with fail
        refine LB.out.mono ?_
        rintro e wz ⟨rfl, rfl⟩
        go_wp2_with fail
        refine (l02List_any K n w1 HS2.out (by omega)).mono ?_
        rintro e w2 ⟨v2, rfl, ho2, hb2⟩
        have HX2 := Lib.hid (HX1.out.below hb2)
        have HB2 := Lib.hid (Below.then HB1.out hb2)
        have HO2 : Hid (Own w2 w1.heap.size v2 (nI (memN K n))) := Lib.hid ho2
        have hsz2 := Lib.hid HB1.out.size
        clear ho2 hb2 HX1 HB1 y0 y1 LB
        have y0 := HX2.out.1
        have y1 := HX2.out.2
        go_wp2_with fail
        refine (HKE.out v2 w2 (HR.out.below HB2.out) HO2.out.rd).mono ?_
        rintro e w3 ⟨v3, b3, rfl, h31, h32, hb3⟩
        have HX3 := Lib.hid (HX2.out.below hb3)
        have HB3 := Lib.hid (Below.then HB2.out hb3)
        have HO3 := Lib.hid (HO2.out.below hb3)
        have H31 := Lib.hid h31
        have H32 := Lib.hid h32
        have hsz3 := Lib.hid HB2.out.size
        clear hb3 h31 h32 HX2 HB2 HO2 y0 y1 HKE
        have y0 := HX3.out.1
        have y1 := HX3.out.2
        rcases hG : evG xs (memN K n) n with _ | _
        · as_aux_lemma =>
          obtain rfl := H32.out hG
          have HFA : Hid (sfG xs n K = false) := Lib.hid (by rw [HST.out, hG]; rfl)
          go_wp2
          go_roundw
          case rel => exact ⟨K, hk2, by go_num, Lib.hid (HNX.out HFA.out), HX3, HB3⟩
          case measure => simp [intOf]; omega
        · as_aux_lemma =>
          obtain ⟨rfl, ho3⟩ := H31.out hG
          obtain ⟨hVl, hVs, hVa⟩ := HLW.out hG
          rw [hG, Bool.true_and] at HST
          rw [HKR.out] at ho3
          have HPL := Lib.hid (fun k => spK_len (lowL (evV xs (memN K n) n)) (memN K n) n k)
          have HP0 : Hid (spK (lowL (evV xs (memN K n) n)) (memN K n) n 0 = List.replicate n 0) := Lib.hid rfl
          have HVL := Lib.hid hVl
          have HVS := Lib.hid hVs
          have HVA := Lib.hid hVa
          clear hVl hVs hVa HLW HKR H31 H32 HODD
          generalize lowL (evV xs (memN K n) n) = V at *
          have HME : Hid (∀ k, k < (memN K n).length → (memN K n).getD k 0 < n) := Lib.hid fun k hk => HMM.out _ (by rw [getD_nat hk]; exact List.getElem_mem hk)
          have hl1 : 0 < (memN K n).length := by
            have := HPOP.out
            omega
          have HO3n := HO3
          generalize memN K n = l at *
          obtain ⟨g5, c5, rfl, hg5b, hc5, hlc5, hz5, -⟩ := HO3.out.at_ (n := l.length) (by rw [nI_len]) hl1
          obtain ⟨g6, c6, rfl, hg6b, hc6, hlc6, hz6, -⟩ := ho3.at_ (n := l.length) (by rw [List.length_map]) hl1
          unfold maxLen at hc5 hc6
          have HZ5 := Lib.hid (fun i (hi : i < l.length) => (show w3.cell? ⟨g5, i, none⟩ = some (.int .i64 (l.getD i 0 : Nat)) by rw [hz5 i hi, nI_getD hi]))
          have HZ6 := Lib.hid (fun i (hi : i < l.length) => (show w3.cell? ⟨g6, i, none⟩ = some (.int .i64 (V.getD (l.getD i 0) 0)) by rw [hz6 i hi]; simp [List.getD_eq_getElem?_getD, hi]))
          have hg5 := (HO3.out.lt g5 rfl).2
          have hg6 := (ho3.lt g6 rfl).2
          have hl7 : l.length ≤ 7 := by have := HML.out; omega
          clear hz5 hz6 ho3 HO3 HO3n HMM HND HML
          obtain ⟨i0, hi, hz0, hz1, hz2⟩ := info_parts i64_info
          go_wp2_with (at_make; refine wpList_make_full _ rfl _ _ 22 rfl w3.heap.size 3 i0 (.int .i64 0) 1 Try.underlying22 hi hz0 hz1 _ _ _ _ n rfl rfl rfl rfl (by rw [hz2]; omega) (by unfold maxLen; omega) (Nat.le_refl _) ?_; intro w4 hown hg4; have hb4 : Below w3.heap.size w3 w4 := (Below.refl w3.heap.size w3).grown hg4 (Nat.le_refl _) (by simp); have HO4 : Hid (Own w4 w3.heap.size (.slice (some ⟨w3.heap.size, 0, none⟩) n n) (List.replicate n 0)) := Lib.hid (by rw [ints_made'] at hown; unfold Own; rw [List.length_replicate]; exact hown); have HB34 := Lib.hid hb4; have HX4 := Lib.hid (HX3.out.below hb4); clear hown hg4 hb4)
          rw [← HP0.out] at HO4
          have hsz4 : Hid (w3.heap.size ≤ w4.heap.size) := Lib.hid HB34.out.size
          go_loopw [44] (fun t44 wr => ∃ (j : Nat), j ≤ l.length ∧ t44 = .int .i64 j ∧ Hid (Own wr w3.heap.size (.slice (some ⟨w3.heap.size, 0, none⟩) n n) (spK V l n j)) ∧ Hid (Below w3.heap.size w3 wr)) (fun t44 _ => l.length - (intOf t44).toNat)
          case atStart => exact ⟨0, by omega, rfl, HO4, HB34⟩
          case round =>
            obtain ⟨wi, rfl⟩ : ∃ x, x = wr := ⟨_, rfl⟩
            obtain ⟨j, hj, rfl, HOi, HBi⟩ := hrel
            clear HO4 HB34 hsz4
            by_cases hjl : j < l.length
            · as_aux_lemma =>
              have z5 := (HBi.out.cell (p := ⟨g5, j, none⟩) hg5).trans (HZ5.out j hjl)
              have z6 := (HBi.out.cell (p := ⟨g6, j, none⟩) hg6).trans (HZ6.out j hjl)
              have hbn := HME.out j hjl
              have HLj := Lib.hid (HPL.out j)
              have hcell := HOi.out.at1 HLj.out h1n
              have z9 := hcell.1 _ hbn
              have f9 := hcell.2 (l.getD j 0)
              have hs := (HOi.out.set_ HLj.out (l.getD j 0) (V.getD (l.getD j 0) 0)).1
              have hps : (spK V l n j).set (l.getD j 0) (V.getD (l.getD j 0) 0) = spK V l n (j + 1) := rfl
              rw [hps] at hs
              have HSO := Lib.hid hs
              have HSB := Lib.hid (HBi.out.setCell (p := ⟨w3.heap.size, l.getD j 0, none⟩) (Nat.le_refl _) (.int .i64 (V.getD (l.getD j 0) 0)))
              clear hs hps hcell
              generalize l.getD j 0 = a at *
              generalize V.getD a 0 = x at *
              go_wp2
              go_roundw
              case rel => exact ⟨j + 1, by omega, by go_num, HSO, HSB⟩
              case measure => simp [intOf]; omega
            · as_aux_lemma =>
              obtain rfl : l.length = j := by omega
              have HO5 := HOi
              rw [HVA.out] at HO5
              have HBw := Lib.hid (Below.then HB3.out HBi.out)
              have HXi := Lib.hid (HX3.out.below HBi.out)
              have HSF := Lib.hid (l10Safe_any n (.slice A n c) xs _ V wi (HR.out.below HBw.out) HO5.out.rd HVS.out)
              have HSE : Hid (safeB n xs V = safeK xs V V.length) := Lib.hid (by unfold safeB; rw [HVS.out]; rfl)
              rw [HSE.out] at HST
              have yi0 := HXi.out.1
              have yi1 := HXi.out.2
              clear HX3 y0 y1 HOi
              go_wp2_with fail
              refine HSF.out.mono ?_
              rintro e w7 ⟨rfl, hb7⟩
              have HX7 := Lib.hid (HXi.out.below hb7)
              have HB7 := Lib.hid (Below.then HBw.out hb7)
              have HO7 := Lib.hid (HO5.out.below hb7)
              have HSZ := Lib.hid HB3.out.size
              clear hb7 HXi HO5 HSF yi0 yi1
              rcases hs : safeK xs V V.length with _ | _
              · have HFA : Hid (sfG xs n K = false) := Lib.hid (by rw [HST.out, hs])
                go_wp2
                go_roundw
                case rel => exact ⟨K, hk2, by go_num, Lib.hid (HNX.out HFA.out), HX7, HB7⟩
                case measure => simp [intOf]; omega
              · have HTR : Hid (sfG xs n K = true) := Lib.hid (by rw [HST.out, hs])
                go_wp2
                go_ret2
                refine ⟨_, _, rfl, fun S h1 h2 h3 h4 => ⟨rfl, ?_⟩, fun h => ?_, HB7.out⟩
                · have e : S = K := by
                    rcases Nat.lt_trichotomy S K with h5 | h5 | h5
                    · rw [HF.out S h1 h5] at h3; exact absurd h3 (by decide)
                    · exact h5
                    · rw [h4 K HK1.out h5] at HTR; exact absurd HTR.out (by decide)
                  rw [e, HSV.out]
                  exact HO7.out.mono HSZ.out
                · rw [h K HK1.out hlt] at HTR; exact absurd HTR.out (by decide)
    · as_aux_lemma =>
      obtain rfl : Q = k + 1 := by omega
      have hlti : ¬ ((k + 1 : Nat) : Int) ≤ ((k + 1 - 1 : Nat) : Int) := by omega
      go_wp2_with fail
      refine (HAL.out wo (by omega)).mono ?_
      rintro e w1 ⟨rfl, hb1⟩
      have HB1 := Lib.hid (Below.then HB.out hb1)
      clear hb1
      go_wp2
      go_ret2
      refine ⟨_, _, rfl, fun S h1 h2 h3 _ => ?_, fun _ => ⟨rfl, rfl⟩, HB1.out⟩
      rw [HF.out S h1 (by omega)] at h3
      exact absurd h3 (by decide)
set_option maxHeartbeats 1000000 in
theorem specSafeS_no (s : Int) (sl : Value) (xs : List Int) (w : World) (h : Rd w sl xs) (hno : tourB s xs = true → 7 < s) :
    Calls Try.prog 10 #[.agg #[.int .i64 s, sl]] w fun e w' => e = .returned (.tuple #[.slice none 0 0, .bool false]) ∧ Below w.heap.size w w' := by
  have HR := Lib.hid h
  have HNO := Lib.hid hno
  obtain ⟨A, c, rfl, -, hcm, -⟩ := h
  unfold maxLen at hcm
  clear hno
  go_enter Try.func10, Try.ntmps10
  go_wp2_with fail
  have b0 := below_alloc1 w (.cells #[.int .i64 s, .slice A xs.length c] 28)
  have x0 := TBox.new w s (.slice A xs.length c) 28
  generalize w.alloc (.cells #[.int .i64 s, .slice A xs.length c] 28) = w0 at *
  have HX0 := Lib.hid x0
  have HB0 := Lib.hid b0
  clear x0 b0
  have y0_0 := HX0.out.1
  have y1_0 := HX0.out.2
  go_wp2_with fail
  refine (specTourOk s _ xs _ (HR.out.below HB0.out)).mono ?_
  rintro e w1 ⟨rfl, hb⟩
  have HX1 := Lib.hid (HX0.out.below hb)
  have HB1 := Lib.hid (Below.then HB0.out hb)
  clear hb HX0 HB0 y0_0 y1_0
  have y0_1 := HX1.out.1
  have y1_1 := HX1.out.2
  rcases q : tourB s xs with _ | _
  · go_wp2
    go_ret2
    exact ⟨rfl, HB1.out⟩
  · have h7 := HNO.out q
    go_wp2
    go_ret2
    exact ⟨rfl, HB1.out⟩
end Go.Proofs.Ytajeledbmnndmaa

namespace Go.Proofs.Ytajeledbmnndmaa
open Go.RowKit Go.Sort
set_option maxRecDepth 100000
set_option maxHeartbeats 1000000 in
theorem implSafeS_no (s : Int) (sl : Value) (xs : List Int) (w : World) (h : Rd w sl xs) (hno : tourB s xs = true → 7 < s) :
    Calls Try.prog 12 #[.agg #[.int .i64 s, sl]] w fun e w' => e = .returned (.tuple #[.slice none 0 0, .bool false]) ∧ Below w.heap.size w w' := by
  have HR := Lib.hid h
  have HNO := Lib.hid hno
  obtain ⟨A, c, rfl, -, hcm, -⟩ := h
  unfold maxLen at hcm
  clear hno
  go_enter Try.func12, Try.ntmps12
  go_wp2_with fail
  have b0 := below_alloc1 w (.cells #[.int .i64 s, .slice A xs.length c] 28)
  have x0 := TBox.new w s (.slice A xs.length c) 28
  generalize w.alloc (.cells #[.int .i64 s, .slice A xs.length c] 28) = w0 at *
  have HX0 := Lib.hid x0
  have HB0 := Lib.hid b0
  clear x0 b0
  have y0_0 := HX0.out.1
  have y1_0 := HX0.out.2
  go_wp2_with fail
  refine (implTourOk s _ xs _ (HR.out.below HB0.out)).mono ?_
  rintro e w1 ⟨rfl, hb⟩
  have HX1 := Lib.hid (HX0.out.below hb)
  have HB1 := Lib.hid (Below.then HB0.out hb)
  clear hb HX0 HB0 y0_0 y1_0
  have y0_1 := HX1.out.1
  have y1_1 := HX1.out.2
  rcases q : tourB s xs with _ | _
  · go_wp2
    go_ret2
    exact ⟨rfl, HB1.out⟩
  · have h7 := HNO.out q
    go_wp2
    go_ret2
    exact ⟨rfl, HB1.out⟩
end Go.Proofs.Ytajeledbmnndmaa

namespace Go.Proofs.Ytajeledbmnndmaa
open Go.RowKit Go.Sort
set_option maxRecDepth 100000
/-- the set of the places below k that hold more than 0 -/
def posN (V : List Int) : Nat → Nat
  | 0 => 0
  | k + 1 => if 0 < V.getD k 0 then posN V k ||| 2 ^ k else posN V k
theorem posN_lt (V : List Int) : ∀ k, posN V k < 2 ^ k := by
  intro k
  induction k with
  | zero => simp [posN]
  | succ k ih =>
    have h2 : 2 ^ k < 2 ^ (k + 1) := Nat.pow_lt_pow_right (by decide) (by omega)
    simp only [posN]
    split
    · exact Nat.or_lt_two_pow (by omega) h2
    · omega
set_option maxHeartbeats 2000000 in
/-- SafeSet after SafeStrategy has answered with a list of at most 7 weights. -/
theorem implSafeSet_of (s : Int) (A : Option Addr) (la c0 : Nat) (w : World) (V : List Int) (hV : V.length ≤ 7) (b : Bool) (hS : ∀ W, Below w.heap.size w W → Calls Try.prog 12 #[.agg #[.int .i64 s, .slice A la c0]] W fun e w' => ∃ v', e = .returned (.tuple #[v', .bool b]) ∧ Rd w' v' V ∧ Below W.heap.size W w') :
    Calls Try.prog 19 #[.agg #[.int .i64 s, .slice A la c0]] w fun e w' => e = .returned (.int .i64 (posN V V.length : Nat)) ∧ Below w.heap.size w w' := by
  have HS := Lib.hid hS
  clear hS
  go_enter Try.func19, Try.ntmps19
  go_wp2_with fail
  have b0 := below_alloc1 w (.cells #[.int .i64 s, .slice A la c0] 28)
  have x0 := TBox.new w s (.slice A la c0) 28
  generalize w.alloc (.cells #[.int .i64 s, .slice A la c0] 28) = w0 at *
  have HX0 := Lib.hid x0
  have HB0 := Lib.hid b0
  clear x0 b0
  have y0_0 := HX0.out.1
  have y1_0 := HX0.out.2
  go_wp2_with fail
  refine (HS.out _ HB0.out).mono ?_
  rintro e w1 ⟨v', rfl, hr, hb⟩
  have HR := Lib.hid hr
  have HB := Lib.hid (Below.then HB0.out hb)
  obtain ⟨A, c, rfl, hc1, hc2, hx⟩ := hr
  unfold maxLen at hc2
  have HX := Lib.hid hx
  have HLT : Hid (∀ k, k ≤ 7 → posN V k < 128) := Lib.hid fun k hk => Nat.lt_of_lt_of_le (posN_lt V k) (Nat.pow_le_pow_right (n := 2) (j := 7) (by decide) hk)
  obtain ⟨m, hm⟩ : ∃ m, m = V.length := ⟨_, rfl⟩
  have HM := Lib.hid hm
  rw [← hm] at hV hc1 HX ⊢
  clear hx hb hm
  go_wp2
  go_loop [5, 15] (fun t i => ∃ k : Nat, k ≤ m ∧ i = .int .i64 k ∧ t = .int .i64 (posN V k : Nat)) (fun _ i => m - (intOf i).toNat)
  case atStart => exact ⟨0, by omega, rfl, rfl⟩
  case round =>
    obtain ⟨k, hk, rfl, rfl⟩ := hrel
    have hN := HLT.out k (by omega)
    by_cases hlt : k < m
    · obtain ⟨g, off, rfl, hg, hz⟩ := HX.out (by omega)
      have hzk := hz k hlt
      have HST : Hid (posN V (k + 1) = if 0 < V.getD k 0 then posN V k ||| 2 ^ k else posN V k) := Lib.hid rfl
      have hor := or_shl (posN V k) k (by omega) (by omega)
      generalize posN V k = N at *
      generalize V.getD k 0 = x at *
      clear hz
      by_cases hx : 0 < x
      · have d : decide (0 < x) = true := by simp; omega
        rw [if_pos hx] at HST
        go_wp2
        go_round
        case rel => exact ⟨k + 1, by omega, by go_num, by rw [HST.out]⟩
        case measure => simp [intOf]; omega
      · have d : decide (0 < x) = false := by simp; omega
        rw [if_neg hx] at HST
        go_wp2
        go_round
        case rel => exact ⟨k + 1, by omega, by go_num, by rw [HST.out]⟩
        case measure => simp [intOf]; omega
    · obtain rfl : k = m := by omega
      go_wp2
      go_ret
      exact ⟨by rw [← HM.out]; rfl, HB.out⟩
end Go.Proofs.Ytajeledbmnndmaa

namespace Go.Proofs.Ytajeledbmnndmaa
open Go.RowKit Go.Sort
set_option maxRecDepth 100000
theorem posN_bit (V : List Int) (k : Nat) : (posN V k).testBit k = false := Nat.testBit_lt_two_pow (posN_lt V k)
set_option maxHeartbeats 2000000 in
/-- SafeSet after SafeStrategy has answered with a list of at most 7 weights. -/
theorem specSafeSet_of (s : Int) (A : Option Addr) (la c0 : Nat) (w : World) (V : List Int) (hV : V.length ≤ 7) (hS : ∀ W, Below w.heap.size w W → Calls Try.prog 10 #[.agg #[.int .i64 s, .slice A la c0]] W fun e w' => ∃ v', e = .returned (.tuple #[v', .bool true]) ∧ Rd w' v' V ∧ Below W.heap.size W w') :
    Calls Try.prog 18 #[.agg #[.int .i64 s, .slice A la c0]] w fun e w' => e = .returned (.int .i64 (posN V V.length : Nat)) ∧ Below w.heap.size w w' := by
  have HS := Lib.hid hS
  clear hS
  go_enter Try.func18, Try.ntmps18
  go_wp2_with fail
  have b0 := below_alloc1 w (.cells #[.int .i64 s, .slice A la c0] 28)
  have x0 := TBox.new w s (.slice A la c0) 28
  generalize w.alloc (.cells #[.int .i64 s, .slice A la c0] 28) = w0 at *
  have HX0 := Lib.hid x0
  have HB0 := Lib.hid b0
  clear x0 b0
  have y0_0 := HX0.out.1
  have y1_0 := HX0.out.2
  go_wp2_with fail
  refine (HS.out _ HB0.out).mono ?_
  rintro e w1 ⟨v', rfl, hr, hb⟩
  have HR := Lib.hid hr
  have HB := Lib.hid (Below.then HB0.out hb)
  obtain ⟨A, c, rfl, hc1, hc2, hx⟩ := hr
  unfold maxLen at hc2
  have HX := Lib.hid hx
  have HLT : Hid (∀ k, k ≤ 7 → posN V k < 128) := Lib.hid fun k hk => Nat.lt_of_lt_of_le (posN_lt V k) (Nat.pow_le_pow_right (n := 2) (j := 7) (by decide) hk)
  obtain ⟨m, hm⟩ : ∃ m, m = V.length := ⟨_, rfl⟩
  have HM := Lib.hid hm
  rw [← hm] at hV hc1 HX ⊢
  clear hx hb hm
  go_wp2
  go_loop [5, 17] (fun t i => ∃ k : Nat, k ≤ m ∧ i = .int .i64 k ∧ t = .int .i64 (posN V k : Nat)) (fun _ i => m - (intOf i).toNat)
  case atStart => exact ⟨0, by omega, rfl, rfl⟩
  case round =>
    obtain ⟨k, hk, rfl, rfl⟩ := hrel
    have hN := HLT.out k (by omega)
    by_cases hlt : k < m
    · obtain ⟨g, off, rfl, hg, hz⟩ := HX.out (by omega)
      have hzk := hz k hlt
      have HST : Hid (posN V (k + 1) = if 0 < V.getD k 0 then posN V k ||| 2 ^ k else posN V k) := Lib.hid rfl
      have h2k : 2 ^ k ≤ 128 := Nat.pow_le_pow_right (n := 2) (j := 7) (by decide) (by omega)
      have hao := add_or (S := posN V k) (a := k) (by omega) (by omega) (posN_bit V k)
      have hsh := shl_nat k (by omega)
      rw [← hao] at HST
      have hwr : wrap64 ((posN V k : Int) + 2 ^ k) = ((posN V k + 2 ^ k : Nat) : Int) := by
        have h2 : ((2 : Int) ^ k) = ((2 ^ k : Nat) : Int) := by simp
        rw [h2, ← Int.natCast_add, wrap64_nat _ (by omega)]
      clear hao
      generalize posN V k = N at *
      generalize V.getD k 0 = x at *
      clear hz
      by_cases hx : 0 < x
      · have d : decide (0 < x) = true := by simp; omega
        rw [if_pos hx] at HST
        go_wp2
        go_round
        case rel => exact ⟨k + 1, by omega, by go_num, by rw [HST.out]; exact congrArg (Value.int .i64) hwr⟩
        case measure => simp [intOf]; omega
      · have d : decide (0 < x) = false := by simp; omega
        rw [if_neg hx] at HST
        go_wp2
        go_round
        case rel => exact ⟨k + 1, by omega, by go_num, by rw [HST.out]⟩
        case measure => simp [intOf]; omega
    · obtain rfl : k = m := by omega
      go_wp2
      go_ret
      exact ⟨by rw [← HM.out]; rfl, HB.out⟩
end Go.Proofs.Ytajeledbmnndmaa

namespace Go.Proofs.Ytajeledbmnndmaa
open Go.RowKit Go.Sort
set_option maxRecDepth 100000
set_option maxHeartbeats 2000000 in
theorem specSafeSet_no (s : Int) (A : Option Addr) (la c0 : Nat) (w : World) (hS : ∀ W, Below w.heap.size w W → Calls Try.prog 10 #[.agg #[.int .i64 s, .slice A la c0]] W fun e w' => e = .returned (.tuple #[.slice none 0 0, .bool false]) ∧ Below W.heap.size W w') :
    Calls Try.prog 18 #[.agg #[.int .i64 s, .slice A la c0]] w fun e w' => e = .returned (.int .i64 0) ∧ Below w.heap.size w w' := by
  have HS := Lib.hid hS
  clear hS
  go_enter Try.func18, Try.ntmps18
  go_wp2_with fail
  have b0 := below_alloc1 w (.cells #[.int .i64 s, .slice A la c0] 28)
  have x0 := TBox.new w s (.slice A la c0) 28
  generalize w.alloc (.cells #[.int .i64 s, .slice A la c0] 28) = w0 at *
  have HX0 := Lib.hid x0
  have HB0 := Lib.hid b0
  clear x0 b0
  have y0_0 := HX0.out.1
  have y1_0 := HX0.out.2
  go_wp2_with fail
  refine (HS.out _ HB0.out).mono ?_
  rintro e w1 ⟨rfl, hb⟩
  have HB := Lib.hid (Below.then HB0.out hb)
  clear hb
  go_wp2
  go_ret
  exact ⟨rfl, HB.out⟩
end Go.Proofs.Ytajeledbmnndmaa

namespace Go.Proofs.Ytajeledbmnndmaa
open Go.RowKit Go.Sort
set_option maxRecDepth 100000
/-- the first safe set -/
noncomputable def ssO (s : Int) (xs : List Int) : Option Nat := if tourB s xs = true ∧ s ≤ 7 then (List.range (2 ^ s.toNat)).find? fun S => decide (1 ≤ S) && sfG xs s.toNat S else none
noncomputable def ssL (s : Int) (xs : List Int) : List Int := match ssO s xs with
  | some S => sfV xs s.toNat S
  | none => []
noncomputable def ssB (s : Int) (xs : List Int) : Bool := (ssO s xs).isSome
theorem ssO_some {s : Int} {xs : List Int} {S : Nat} (h : ssO s xs = some S) : tourP s xs ∧ s ≤ 7 ∧ 1 ≤ S ∧ S < 2 ^ s.toNat ∧ sfG xs s.toNat S = true ∧ ∀ T, 1 ≤ T → T < S → sfG xs s.toNat T = false := by
  unfold ssO at h
  split at h
  · rename_i hc
    rw [List.find?_range_eq_some] at h
    obtain ⟨h1, h2, h3⟩ := h
    simp only [Bool.and_eq_true, decide_eq_true_eq] at h1
    refine ⟨tourB_true.1 hc.1, hc.2, h1.1, by simpa using h2, h1.2, fun T a b => ?_⟩
    have := h3 T b
    simpa [a] using this
  · exact absurd h (by simp)
theorem ssO_none {s : Int} {xs : List Int} (h : ssO s xs = none) (hp : tourP s xs) (h7 : s ≤ 7) : ∀ S, 1 ≤ S → S < 2 ^ s.toNat → sfG xs s.toNat S = false := by
  unfold ssO at h
  rw [if_pos ⟨tourB_true.2 hp, h7⟩, List.find?_range_eq_none] at h
  intro S h1 h2
  have := h S h2
  simpa [h1] using this
theorem sfV_len (xs : List Int) (n S : Nat) : (sfV xs n S).length = n := by unfold sfV lowL; rw [List.length_map, evV_len]
theorem ssL_len (s : Int) (xs : List Int) : (ssL s xs).length ≤ 7 := by
  unfold ssL
  split
  · rename_i S h
    have h2 := (ssO_some h).2.1
    rw [sfV_len]; omega
  · simp
theorem ssL_none {s : Int} {xs : List Int} (h : ssO s xs = none) : ssL s xs = [] := by unfold ssL; rw [h]
theorem ssL_some {s : Int} {xs : List Int} {S : Nat} (h : ssO s xs = some S) : ssL s xs = sfV xs s.toNat S := by unfold ssL; rw [h]
noncomputable def sstI (s : Int) (xs : List Int) : Int := (posN (ssL s xs) (ssL s xs).length : Nat)
theorem implSafeX (s : Int) (sl : Value) (xs : List Int) (w : World) (h : Rd w sl xs) :
    Calls Try.prog 12 #[.agg #[.int .i64 s, sl]] w fun e w' => ∃ v', e = .returned (.tuple #[v', .bool (ssB s xs)]) ∧ Own w' w.heap.size v' (ssL s xs) ∧ Below w.heap.size w w' := by
  by_cases hc : tourB s xs = true ∧ s ≤ 7
  · have hp := tourB_true.1 hc.1
    obtain ⟨n, rfl⟩ := Int.eq_ofNat_of_zero_le (show 0 ≤ s by have := hp.1; omega)
    refine (implSafeS n sl xs hp (by omega) w h).mono ?_
    rintro e w' ⟨v', b, rfl, h1, h2, h3⟩
    rcases q : ssO (n : Int) xs with _ | S
    · obtain ⟨rfl, rfl⟩ := h2 (ssO_none q hp hc.2)
      exact ⟨_, by unfold ssB; rw [q]; rfl, by rw [ssL_none q]; exact Own.nil_ _ _, h3⟩
    · obtain ⟨-, -, a1, a2, a3, a4⟩ := ssO_some q
      obtain ⟨rfl, ho⟩ := h1 S a1 a2 a3 a4
      exact ⟨_, by unfold ssB; rw [q]; rfl, by rw [ssL_some q]; exact ho, h3⟩
  · have q : ssO s xs = none := if_neg hc
    refine (implSafeS_no s sl xs w h (fun ht => Int.not_le.1 fun h7 => hc ⟨ht, h7⟩)).mono ?_
    rintro e w' ⟨rfl, h3⟩
    exact ⟨_, by unfold ssB; rw [q]; rfl, by rw [ssL_none q]; exact Own.nil_ _ _, h3⟩
theorem specSafeX (s : Int) (sl : Value) (xs : List Int) (w : World) (h : Rd w sl xs) :
    Calls Try.prog 10 #[.agg #[.int .i64 s, sl]] w fun e w' => ∃ v', e = .returned (.tuple #[v', .bool (ssB s xs)]) ∧ Own w' w.heap.size v' (ssL s xs) ∧ (ssO s xs = none → v' = .slice none 0 0) ∧ Below w.heap.size w w' := by
  by_cases hc : tourB s xs = true ∧ s ≤ 7
  · have hp := tourB_true.1 hc.1
    obtain ⟨n, rfl⟩ := Int.eq_ofNat_of_zero_le (show 0 ≤ s by have := hp.1; omega)
    refine (specSafeS n sl xs hp (by omega) w h).mono ?_
    rintro e w' ⟨v', b, rfl, h1, h2, h3⟩
    rcases q : ssO (n : Int) xs with _ | S
    · obtain ⟨rfl, rfl⟩ := h2 (ssO_none q hp hc.2)
      exact ⟨_, by unfold ssB; rw [q]; rfl, by rw [ssL_none q]; exact Own.nil_ _ _, fun _ => rfl, h3⟩
    · obtain ⟨-, -, a1, a2, a3, a4⟩ := ssO_some q
      obtain ⟨rfl, ho⟩ := h1 S a1 a2 a3 a4
      exact ⟨_, by unfold ssB; rw [q]; rfl, by rw [ssL_some q]; exact ho, (by simp), h3⟩
  · have q : ssO s xs = none := if_neg hc
    refine (specSafeS_no s sl xs w h (fun ht => Int.not_le.1 fun h7 => hc ⟨ht, h7⟩)).mono ?_
    rintro e w' ⟨rfl, h3⟩
    exact ⟨_, by unfold ssB; rw [q]; rfl, by rw [ssL_none q]; exact Own.nil_ _ _, fun _ => rfl, h3⟩
theorem specSafeY (s : Int) (sl : Value) (xs : List Int) (w : World) (h : Rd w sl xs) :
    Calls Try.prog 10 #[.agg #[.int .i64 s, sl]] w fun e w' => ∃ v', e = .returned (.tuple #[v', .bool (ssB s xs)]) ∧ Own w' w.heap.size v' (ssL s xs) ∧ Below w.heap.size w w' :=
  (specSafeX s sl xs w h).mono fun _ _ ⟨v', h1, h2, _, h3⟩ => ⟨v', h1, h2, h3⟩
theorem implSafeT (s : Int) (sl : Value) (xs : List Int) (w : World) (h : Rd w sl xs) :
    Calls Try.prog 19 #[.agg #[.int .i64 s, sl]] w fun e w' => e = .returned (.int .i64 (sstI s xs)) ∧ Below w.heap.size w w' := by
  have HR := Lib.hid h
  obtain ⟨A, c, rfl, -⟩ := h
  exact implSafeSet_of s A xs.length c w (ssL s xs) (ssL_len s xs) (ssB s xs) fun W hW => (implSafeX s _ xs W (HR.out.below hW)).mono fun _ _ ⟨v', h1, h2, h3⟩ => ⟨v', h1, h2.rd, h3⟩
theorem specSafeT (s : Int) (sl : Value) (xs : List Int) (w : World) (h : Rd w sl xs) :
    Calls Try.prog 18 #[.agg #[.int .i64 s, sl]] w fun e w' => e = .returned (.int .i64 (sstI s xs)) ∧ Below w.heap.size w w' := by
  have HR := Lib.hid h
  obtain ⟨A, c, rfl, -⟩ := h
  rcases q : ssO s xs with _ | S
  · have e0 : sstI s xs = 0 := by unfold sstI; rw [ssL_none q]; rfl
    rw [e0]
    exact specSafeSet_no s A xs.length c w fun W hW => (specSafeX s _ xs W (HR.out.below hW)).mono fun _ _ ⟨v', h1, _, h3, h4⟩ => ⟨by rw [h1, h3 q]; unfold ssB; rw [q]; rfl, h4⟩
  · exact specSafeSet_of s A xs.length c w (ssL s xs) (ssL_len s xs) fun W hW => (specSafeX s _ xs W (HR.out.below hW)).mono fun _ _ ⟨v', h1, h2, _, h4⟩ => ⟨v', by rw [h1]; unfold ssB; rw [q]; rfl, h2.rd, h4⟩
end Go.Proofs.Ytajeledbmnndmaa

namespace Go.Proofs.Ytajeledbmnndmaa
open Go.RowKit
set_option maxRecDepth 100000

set_option maxHeartbeats 2000000 in
theorem lawSafeStrategy (v0 : Value) (w : World) (h0 : TourOpen w v0) :
    Calls Try.prog 3 #[v0] w fun e w' => e = .returned (.bool true) ∧ Below w.heap.size w w' := by
  obtain ⟨s0, x0, ⟨u0, rfl, r0⟩, i0, lo0, hi0⟩ := h0
  have R0 := Lib.hid r0
  have I0 := Lib.hid i0
  obtain ⟨A0, c0, rfl, -, -, -⟩ := r0
  clear i0
  by_cases hn0 : 0 ≤ (1048576 : Int) - (x0.length : Int)
  case neg =>
    go_enter Try.func3, Try.ntmps3
    go_wp2_with fail
    have b1 := below_alloc1 w (.cells #[.int .i64 s0, (.slice A0 x0.length c0)] 24)
    have tpaT_1 := TBox.new w s0 (.slice A0 x0.length c0) 24
    have g1 : w.heap.size < (w.alloc (.cells #[.int .i64 s0, (.slice A0 x0.length c0)] 24)).heap.size := by simp
    generalize w.alloc (.cells #[.int .i64 s0, (.slice A0 x0.length c0)] 24) = w1 at *
    have ya_paT_1 := tpaT_1.1
    have yb_paT_1 := tpaT_1.2
    clear g1
    have bb1 : Below w.heap.size w w1 := b1
    clear b1
    go_wp2_with fail
    refine (szTour_any s0 (.slice A0 x0.length c0) x0 ((1048576 : Int)) _ (R0.out.below bb1) (by omega) (by omega)).mono ?_
    rintro e w2 ⟨rfl, b2⟩
    have bb2 : Below w.heap.size w w2 := Below.then bb1 b2
    have tpaT_2 := tpaT_1.below b2
    have ya_paT_2 := tpaT_2.1
    have yb_paT_2 := tpaT_2.2
    clear tpaT_1 ya_paT_1 yb_paT_1 bb1 b2
    rw [szI_no (by omega)]
    go_wp2_with fail
    go_ret
    exact ⟨rfl, bb2⟩
  go_enter Try.func3, Try.ntmps3
  go_wp2_with fail
  have b1 := below_alloc1 w (.cells #[.int .i64 s0, (.slice A0 x0.length c0)] 24)
  have tpaT_1 := TBox.new w s0 (.slice A0 x0.length c0) 24
  have g1 : w.heap.size < (w.alloc (.cells #[.int .i64 s0, (.slice A0 x0.length c0)] 24)).heap.size := by simp
  generalize w.alloc (.cells #[.int .i64 s0, (.slice A0 x0.length c0)] 24) = w1 at *
  have ya_paT_1 := tpaT_1.1
  have yb_paT_1 := tpaT_1.2
  clear g1
  have bb1 : Below w.heap.size w w1 := b1
  clear b1
  go_wp2_with fail
  refine (szTour_any s0 (.slice A0 x0.length c0) x0 ((1048576 : Int)) _ (R0.out.below bb1) (by omega) (by omega)).mono ?_
  rintro e w2 ⟨rfl, b2⟩
  have bb2 : Below w.heap.size w w2 := Below.then bb1 b2
  have tpaT_2 := tpaT_1.below b2
  have ya_paT_2 := tpaT_2.1
  have yb_paT_2 := tpaT_2.2
  clear tpaT_1 ya_paT_1 yb_paT_1 bb1 b2
  rw [szI_yes (by omega)]
  go_wp2_with fail
  refine (toTour_any s0 (.slice A0 x0.length c0) x0 _ (R0.out.below bb2) (by omega)).mono ?_
  rintro e w3 ⟨y3, rfl, oo3, b3⟩
  obtain ⟨Y3, cy3, rfl, -, -, -⟩ := oo3.form
  have nb_t1_paT := box_old_of tpaT_2 (fun k hk => (oo3.lt k hk).1)
  have ot1_3 : Own w3 w.heap.size (.slice Y3 x0.length cy3) x0 := oo3.mono bb2.size
  clear oo3
  have bb3 : Below w.heap.size w w3 := Below.then bb2 b3
  have tpaT_3 := tpaT_2.below b3
  have ya_paT_3 := tpaT_3.1
  have yb_paT_3 := tpaT_3.2
  clear tpaT_2 ya_paT_2 yb_paT_2 bb2 b3
  go_wp2_with fail
  refine (specSafeY s0 (.slice Y3 x0.length cy3) x0 _ ot1_3.rd).mono ?_
  rintro e w4 ⟨y4, rfl, oy4, b4⟩
  obtain ⟨Yy4, cy4, rfl, -, -, -⟩ := oy4.form
  have ap_t1_w0 := apart_of (fun k hk => (ot1_3.lt k hk).2) (fun k hk => (oy4.lt k hk).1)
  have nb_w0_paT := box_old_of tpaT_3 (fun k hk => (oy4.lt k hk).1)
  have ow0_4 : Own w4 w.heap.size (.slice Yy4 (ssL s0 x0).length cy4) (ssL s0 x0) := oy4.mono bb3.size
  clear oy4
  have bb4 : Below w.heap.size w w4 := Below.then bb3 b4
  have ot1_4 := ot1_3.below b4
  have tpaT_4 := tpaT_3.below b4
  have ya_paT_4 := tpaT_4.1
  have yb_paT_4 := tpaT_4.2
  clear ot1_3 tpaT_3 ya_paT_3 yb_paT_3 bb3 b4
  clear ot1_4
  go_wp2_with fail
  refine (toTour_any s0 (.slice A0 x0.length c0) x0 _ (R0.out.below bb4) (by omega)).mono ?_
  rintro e w5 ⟨y5, rfl, oo5, b5⟩
  obtain ⟨Y5, cy5, rfl, -, -, -⟩ := oo5.form
  have ap_w0_x0 := apart_of (fun k hk => (ow0_4.lt k hk).2) (fun k hk => (oo5.lt k hk).1)
  have nb_x0_paT := box_old_of tpaT_4 (fun k hk => (oo5.lt k hk).1)
  have ox0_5 : Own w5 w.heap.size (.slice Y5 x0.length cy5) x0 := oo5.mono bb4.size
  clear oo5
  have bb5 : Below w.heap.size w w5 := Below.then bb4 b5
  have ow0_5 := ow0_4.below b5
  have tpaT_5 := tpaT_4.below b5
  have ya_paT_5 := tpaT_5.1
  have yb_paT_5 := tpaT_5.2
  clear ow0_4 tpaT_4 ya_paT_4 yb_paT_4 bb4 b5
  have pre_paT_0 := (tpaT_5.below (below_alloc1 w5 (.cells #[.int .i64 s0, (.slice Y5 x0.length cy5)] 28))).1
  have pre_paT_1 := (tpaT_5.below (below_alloc1 w5 (.cells #[.int .i64 s0, (.slice Y5 x0.length cy5)] 28))).2
  go_wp2_with fail
  have b6 := below_alloc1 w5 (.cells #[.int .i64 s0, (.slice Y5 x0.length cy5)] 28)
  have tbx0_6 := TBox.new w5 s0 (.slice Y5 x0.length cy5) 28
  have nb_w0_bx0 := box_new_of (fun k hk => (ow0_5.lt k hk).2)
  have nb_x0_bx0 := box_new_of (fun k hk => (ox0_5.lt k hk).2)
  have g6 : w5.heap.size < (w5.alloc (.cells #[.int .i64 s0, (.slice Y5 x0.length cy5)] 28)).heap.size := by simp
  generalize w5.alloc (.cells #[.int .i64 s0, (.slice Y5 x0.length cy5)] 28) = w6 at *
  have ya_bx0_6 := tbx0_6.1
  have yb_bx0_6 := tbx0_6.2
  clear g6
  have bb6 : Below w.heap.size w w6 := Below.then bb5 b6
  have ow0_6 := ow0_5.below b6
  have ox0_6 := ox0_5.below b6
  have tpaT_6 := tpaT_5.below b6
  have ya_paT_6 := tpaT_6.1
  have yb_paT_6 := tpaT_6.2
  clear ow0_5 ox0_5 tpaT_5 ya_paT_5 yb_paT_5 bb5 b6
  clear pre_paT_0 pre_paT_1
  go_wp2_with fail
  refine (implSafeX s0 (.slice Y5 x0.length cy5) x0 _ ox0_6.rd).mono ?_
  rintro e w7 ⟨y7, rfl, oy7, b7⟩
  obtain ⟨Yy7, cy7, rfl, -, -, -⟩ := oy7.form
  have ap_w0_g0 := apart_of (fun k hk => (ow0_6.lt k hk).2) (fun k hk => (oy7.lt k hk).1)
  have ap_x0_g0 := apart_of (fun k hk => (ox0_6.lt k hk).2) (fun k hk => (oy7.lt k hk).1)
  have nb_g0_paT := box_old_of tpaT_6 (fun k hk => (oy7.lt k hk).1)
  have nb_g0_bx0 := box_old_of tbx0_6 (fun k hk => (oy7.lt k hk).1)
  have og0_7 : Own w7 w.heap.size (.slice Yy7 (ssL s0 x0).length cy7) (ssL s0 x0) := oy7.mono bb6.size
  clear oy7
  have bb7 : Below w.heap.size w w7 := Below.then bb6 b7
  have ow0_7 := ow0_6.below b7
  have ox0_7 := ox0_6.below b7
  have tpaT_7 := tpaT_6.below b7
  have ya_paT_7 := tpaT_7.1
  have yb_paT_7 := tpaT_7.2
  have tbx0_7 := tbx0_6.below b7
  have ya_bx0_7 := tbx0_7.1
  have yb_bx0_7 := tbx0_7.2
  clear ow0_6 ox0_6 tpaT_6 ya_paT_6 yb_paT_6 tbx0_6 ya_bx0_6 yb_bx0_6 bb6 b7
  go_wp2_with fail
  refine (of_drew (eqIntS_refl (.slice Yy7 (ssL s0 x0).length cy7) (.slice Yy4 (ssL s0 x0).length cy4) (ssL s0 x0) _ og0_7.rd ow0_7.rd)).mono ?_
  rintro e w8 ⟨rfl, b8⟩
  have bb8 : Below w.heap.size w w8 := Below.then bb7 b8
  have ow0_8 := ow0_7.below b8
  have ox0_8 := ox0_7.below b8
  have og0_8 := og0_7.below b8
  have tpaT_8 := tpaT_7.below b8
  have ya_paT_8 := tpaT_8.1
  have yb_paT_8 := tpaT_8.2
  have tbx0_8 := tbx0_7.below b8
  have ya_bx0_8 := tbx0_8.1
  have yb_bx0_8 := tbx0_8.2
  clear ow0_7 ox0_7 og0_7 tpaT_7 ya_paT_7 yb_paT_7 tbx0_7 ya_bx0_7 yb_bx0_7 bb7 b8
  go_wp2_with fail
  have bd_8 : Below w.heap.size w w8.drew := bb8.drew
  have odw0_8 : Own w8.drew w.heap.size (.slice Yy4 (ssL s0 x0).length cy4) (ssL s0 x0) := ow0_8
  have odx0_8 : Own w8.drew w.heap.size (.slice Y5 x0.length cy5) x0 := ox0_8
  have odg0_8 : Own w8.drew w.heap.size (.slice Yy7 (ssL s0 x0).length cy7) (ssL s0 x0) := og0_8
  have tdpaT_8 : TBox w8.drew w.heap.size s0 (.slice A0 x0.length c0) := tpaT_8
  have tdbx0_8 : TBox w8.drew w5.heap.size s0 (.slice Y5 x0.length cy5) := tbx0_8
  go_region_held3 (fun W => W.cell? ⟨w.heap.size, 0, none⟩ = some (.int .i64 s0) ∧ W.cell? ⟨w.heap.size, 1, none⟩ = some (.slice A0 x0.length c0) ∧ W.cell? ⟨w5.heap.size, 0, none⟩ = some (.int .i64 s0) ∧ W.cell? ⟨w5.heap.size, 1, none⟩ = some (.slice Y5 x0.length cy5))
    (first | exact ⟨ya_paT_8, yb_paT_8, ya_bx0_8, yb_bx0_8⟩ | exact ⟨ya_paT_9, yb_paT_9, ya_bx0_9, yb_bx0_9⟩ | exact ⟨ya_paT_10, yb_paT_10, ya_bx0_10, yb_bx0_10⟩)
    (first
      | (go_at_call 11; refine (toTour_any s0 (.slice A0 x0.length c0) x0 _ (R0.out.below bd_8) (by omega)).mono ?_; rintro e w9 ⟨y9, rfl, oo9, b9⟩; obtain ⟨Y9, cy9, rfl, -, -, -⟩ := oo9.form; have ap_w0_t2 := apart_of (fun k hk => (odw0_8.lt k hk).2) (fun k hk => (oo9.lt k hk).1); have ap_x0_t2 := apart_of (fun k hk => (odx0_8.lt k hk).2) (fun k hk => (oo9.lt k hk).1); have ap_g0_t2 := apart_of (fun k hk => (odg0_8.lt k hk).2) (fun k hk => (oo9.lt k hk).1); have nb_t2_paT := box_old_of tdpaT_8 (fun k hk => (oo9.lt k hk).1); have nb_t2_bx0 := box_old_of tdbx0_8 (fun k hk => (oo9.lt k hk).1); have ot2_9 : Own w9 w.heap.size (.slice Y9 x0.length cy9) x0 := oo9.mono bd_8.size; have bb9 : Below w.heap.size w w9 := Below.then bd_8 b9; have ow0_9 := odw0_8.below b9; have ox0_9 := odx0_8.below b9; have og0_9 := odg0_8.below b9; have tpaT_9 := tdpaT_8.below b9; have ya_paT_9 := tpaT_9.1; have yb_paT_9 := tpaT_9.2; have tbx0_9 := tdbx0_8.below b9; have ya_bx0_9 := tbx0_9.1; have yb_bx0_9 := tbx0_9.2)
      | (go_at_call 14; refine (eqTour_refl s0 (.slice Y5 x0.length cy5) (.slice Y9 x0.length cy9) x0 _ ox0_9.rd ot2_9.rd).mono ?_; rintro e w10 ⟨rfl, b10⟩; have bb10 : Below w.heap.size w w10 := Below.then bb9 b10; have ow0_10 := ow0_9.below b10; have ox0_10 := ox0_9.below b10; have og0_10 := og0_9.below b10; have ot2_10 := ot2_9.below b10; have tpaT_10 := tpaT_9.below b10; have ya_paT_10 := tpaT_10.1; have yb_paT_10 := tpaT_10.2; have tbx0_10 := tbx0_9.below b10; have ya_bx0_10 := tbx0_10.1; have yb_bx0_10 := tbx0_10.2))
  clear bb8 ow0_8 ox0_8 og0_8 tpaT_8 tbx0_8 oo9 odw0_8 odx0_8 odg0_8 tdpaT_8 ya_paT_8 yb_paT_8 tdbx0_8 ya_bx0_8 yb_bx0_8 bd_8 b9 ow0_9 ox0_9 og0_9 ot2_9 tpaT_9 ya_paT_9 yb_paT_9 tbx0_9 ya_bx0_9 yb_bx0_9 bb9 b10
  clear ot2_10
  go_wp2_with fail
  refine (markTour_any s0 (.slice Y5 x0.length cy5) x0 w.heap.size (1 : Int) _ ox0_10 (by omega) (by omega) (by omega)).mono ?_
  rintro e w11 ⟨rfl, om11, g11⟩
  have bb11 : Below w.heap.size w w11 := Below.grown bb10 g11 bb10.size (fun k hk => (ox0_10.lt k hk).1)
  have ow0_11 := ow0_10.kept g11 ap_w0_x0
  have og0_11 := og0_10.kept g11 (apart_symm ap_x0_g0)
  have tpaT_11 := tpaT_10.kept g11 (nb_ne nb_x0_paT)
  have ya_paT_11 := tpaT_11.1
  have yb_paT_11 := tpaT_11.2
  have tbx0_11 := tbx0_10.kept g11 (nb_ne nb_x0_bx0)
  have ya_bx0_11 := tbx0_11.1
  have yb_bx0_11 := tbx0_11.2
  clear bb10 ow0_10 og0_10 tpaT_10 ya_paT_10 yb_paT_10 tbx0_10 ya_bx0_10 yb_bx0_10 ox0_10 g11
  go_wp2_with fail
  refine (of_drew (eqIntS_refl (.slice Yy7 (ssL s0 x0).length cy7) (.slice Yy4 (ssL s0 x0).length cy4) (ssL s0 x0) _ og0_11.rd ow0_11.rd)).mono ?_
  rintro e w12 ⟨rfl, b12⟩
  have bb12 : Below w.heap.size w w12 := Below.then bb11 b12
  have ow0_12 := ow0_11.below b12
  have ox0_12 := om11.below b12
  have og0_12 := og0_11.below b12
  have tpaT_12 := tpaT_11.below b12
  have ya_paT_12 := tpaT_12.1
  have yb_paT_12 := tpaT_12.2
  have tbx0_12 := tbx0_11.below b12
  have ya_bx0_12 := tbx0_12.1
  have yb_bx0_12 := tbx0_12.2
  clear ow0_11 om11 og0_11 tpaT_11 ya_paT_11 yb_paT_11 tbx0_11 ya_bx0_11 yb_bx0_11 bb11 b12
  go_wp2_with fail
  refine (markIntS_any (.slice Yy7 (ssL s0 x0).length cy7) (ssL s0 x0) w.heap.size (1 : Int) _ og0_12 (by have := ssL_len s0 x0; omega) (by omega) (by omega)).mono ?_
  rintro e w13 ⟨rfl, om13, g13⟩
  have bb13 : Below w.heap.size w w13 := Below.grown bb12 g13 bb12.size (fun k hk => (og0_12.lt k hk).1)
  have ow0_13 := ow0_12.kept g13 ap_w0_g0
  have ox0_13 := ox0_12.kept g13 ap_x0_g0
  have tpaT_13 := tpaT_12.kept g13 (nb_ne nb_g0_paT)
  have ya_paT_13 := tpaT_13.1
  have yb_paT_13 := tpaT_13.2
  have tbx0_13 := tbx0_12.kept g13 (nb_ne nb_g0_bx0)
  have ya_bx0_13 := tbx0_13.1
  have yb_bx0_13 := tbx0_13.2
  clear bb12 ow0_12 ox0_12 tpaT_12 ya_paT_12 yb_paT_12 tbx0_12 ya_bx0_12 yb_bx0_12 og0_12 g13
  go_wp2_with fail
  refine (of_same (heldMarks_any (.slice Yy7 (ssL s0 x0).length cy7) (ssL s0 x0).length (1 : Int) _ om13.rd (by have := ssL_len s0 x0; omega) (by omega) (by omega))).mono ?_
  rintro e w14 ⟨rfl, b14⟩
  have bb14 : Below w.heap.size w w14 := Below.then bb13 b14
  have ow0_14 := ow0_13.below b14
  have ox0_14 := ox0_13.below b14
  have og0_14 := om13.below b14
  have tpaT_14 := tpaT_13.below b14
  have ya_paT_14 := tpaT_14.1
  have yb_paT_14 := tpaT_14.2
  have tbx0_14 := tbx0_13.below b14
  have ya_bx0_14 := tbx0_14.1
  have yb_bx0_14 := tbx0_14.2
  clear ow0_13 ox0_13 om13 tpaT_13 ya_paT_13 yb_paT_13 tbx0_13 ya_bx0_13 yb_bx0_13 bb13 b14
  go_wp2_with fail
  refine (toTour_any s0 (.slice A0 x0.length c0) x0 _ (R0.out.below bb14) (by omega)).mono ?_
  rintro e w15 ⟨y15, rfl, oo15, b15⟩
  obtain ⟨Y15, cy15, rfl, -, -, -⟩ := oo15.form
  have ap_w0_t3 := apart_of (fun k hk => (ow0_14.lt k hk).2) (fun k hk => (oo15.lt k hk).1)
  have ap_x0_t3 := apart_of (fun k hk => (ox0_14.lt k hk).2) (fun k hk => (oo15.lt k hk).1)
  have ap_g0_t3 := apart_of (fun k hk => (og0_14.lt k hk).2) (fun k hk => (oo15.lt k hk).1)
  have nb_t3_paT := box_old_of tpaT_14 (fun k hk => (oo15.lt k hk).1)
  have nb_t3_bx0 := box_old_of tbx0_14 (fun k hk => (oo15.lt k hk).1)
  have ot3_15 : Own w15 w.heap.size (.slice Y15 x0.length cy15) x0 := oo15.mono bb14.size
  clear oo15
  have bb15 : Below w.heap.size w w15 := Below.then bb14 b15
  have ow0_15 := ow0_14.below b15
  have ox0_15 := ox0_14.below b15
  have og0_15 := og0_14.below b15
  have tpaT_15 := tpaT_14.below b15
  have ya_paT_15 := tpaT_15.1
  have yb_paT_15 := tpaT_15.2
  have tbx0_15 := tbx0_14.below b15
  have ya_bx0_15 := tbx0_15.1
  have yb_bx0_15 := tbx0_15.2
  clear ow0_14 ox0_14 og0_14 tpaT_14 ya_paT_14 yb_paT_14 tbx0_14 ya_bx0_14 yb_bx0_14 bb14 b15
  go_wp2_with fail
  refine (implSafeX s0 (.slice Y15 x0.length cy15) x0 _ ot3_15.rd).mono ?_
  rintro e w16 ⟨y16, rfl, oy16, b16⟩
  obtain ⟨Yy16, cy16, rfl, -, -, -⟩ := oy16.form
  have ap_w0_h0 := apart_of (fun k hk => (ow0_15.lt k hk).2) (fun k hk => (oy16.lt k hk).1)
  have ap_x0_h0 := apart_of (fun k hk => (ox0_15.lt k hk).2) (fun k hk => (oy16.lt k hk).1)
  have ap_g0_h0 := apart_of (fun k hk => (og0_15.lt k hk).2) (fun k hk => (oy16.lt k hk).1)
  have ap_t3_h0 := apart_of (fun k hk => (ot3_15.lt k hk).2) (fun k hk => (oy16.lt k hk).1)
  have nb_h0_paT := box_old_of tpaT_15 (fun k hk => (oy16.lt k hk).1)
  have nb_h0_bx0 := box_old_of tbx0_15 (fun k hk => (oy16.lt k hk).1)
  have oh0_16 : Own w16 w.heap.size (.slice Yy16 (ssL s0 x0).length cy16) (ssL s0 x0) := oy16.mono bb15.size
  clear oy16
  have bb16 : Below w.heap.size w w16 := Below.then bb15 b16
  have ow0_16 := ow0_15.below b16
  have ox0_16 := ox0_15.below b16
  have og0_16 := og0_15.below b16
  have ot3_16 := ot3_15.below b16
  have tpaT_16 := tpaT_15.below b16
  have ya_paT_16 := tpaT_16.1
  have yb_paT_16 := tpaT_16.2
  have tbx0_16 := tbx0_15.below b16
  have ya_bx0_16 := tbx0_16.1
  have yb_bx0_16 := tbx0_16.2
  clear ow0_15 ox0_15 og0_15 ot3_15 tpaT_15 ya_paT_15 yb_paT_15 tbx0_15 ya_bx0_15 yb_bx0_15 bb15 b16
  clear ot3_16
  go_wp2_with fail
  refine (of_drew (eqIntS_refl (.slice Yy16 (ssL s0 x0).length cy16) (.slice Yy4 (ssL s0 x0).length cy4) (ssL s0 x0) _ oh0_16.rd ow0_16.rd)).mono ?_
  rintro e w17 ⟨rfl, b17⟩
  have bb17 : Below w.heap.size w w17 := Below.then bb16 b17
  have ow0_17 := ow0_16.below b17
  have ox0_17 := ox0_16.below b17
  have og0_17 := og0_16.below b17
  have oh0_17 := oh0_16.below b17
  have tpaT_17 := tpaT_16.below b17
  have ya_paT_17 := tpaT_17.1
  have yb_paT_17 := tpaT_17.2
  have tbx0_17 := tbx0_16.below b17
  have ya_bx0_17 := tbx0_17.1
  have yb_bx0_17 := tbx0_17.2
  clear ow0_16 ox0_16 og0_16 oh0_16 tpaT_16 ya_paT_16 yb_paT_16 tbx0_16 ya_bx0_16 yb_bx0_16 bb16 b17
  go_wp2_with fail
  refine (of_same (heldMarks_any (.slice Yy7 (ssL s0 x0).length cy7) (ssL s0 x0).length (1 : Int) _ og0_17.rd (by have := ssL_len s0 x0; omega) (by omega) (by omega))).mono ?_
  rintro e w18 ⟨rfl, b18⟩
  have bb18 : Below w.heap.size w w18 := Below.then bb17 b18
  have ow0_18 := ow0_17.below b18
  have ox0_18 := ox0_17.below b18
  have og0_18 := og0_17.below b18
  have oh0_18 := oh0_17.below b18
  have tpaT_18 := tpaT_17.below b18
  have ya_paT_18 := tpaT_18.1
  have yb_paT_18 := tpaT_18.2
  have tbx0_18 := tbx0_17.below b18
  have ya_bx0_18 := tbx0_18.1
  have yb_bx0_18 := tbx0_18.2
  clear ow0_17 ox0_17 og0_17 oh0_17 tpaT_17 ya_paT_17 yb_paT_17 tbx0_17 ya_bx0_17 yb_bx0_17 bb17 b18
  go_wp2_with fail
  go_ret
  exact ⟨rfl, bb18⟩
end Go.Proofs.Ytajeledbmnndmaa

