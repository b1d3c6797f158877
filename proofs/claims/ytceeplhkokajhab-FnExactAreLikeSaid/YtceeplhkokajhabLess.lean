/- spec.l11Less, spec.l08Copy. -/
import Derived.Test.YtceeplhkokajhabCode
import Derived.Test.YtceeplhkokajhabClone
import Derived.Test.YtceeplhkokajhabNames
import Derived.Deep.RegionHeld3
namespace Go.Proofs.Ytceeplhkokajhab
open Go.RowKit Go.Sort
set_option maxRecDepth 100000
/-- two runs of the code side by side: behind a first difference -/
theorem code_first {xs ys : List Int} {n a b c : Nat} (hb : b < n) (ha : a < n)
    (hx : cdAll xs n (n - (a + 1)) (a + 1) (cdRow xs a (n - b) b c) = codeN xs) (hy : cdAll ys n (n - (a + 1)) (a + 1) (cdRow ys a (n - b) b c) = codeN ys) (hd : bt xs a b ≠ bt ys a b) : decide (codeN xs < codeN ys) = bt ys a b := by
  have e : n - b = (n - (b + 1)) + 1 := by omega
  rw [e] at hx hy
  have ex : cdRow xs a (n - (b + 1) + 1) b c = cdRow xs a (n - (b + 1)) (b + 1) (2 * c + (bt xs a b).toNat) := rfl
  have ey : cdRow ys a (n - (b + 1) + 1) b c = cdRow ys a (n - (b + 1)) (b + 1) (2 * c + (bt ys a b).toNat) := rfl
  rw [ex] at hx
  rw [ey] at hy
  rcases h1 : bt xs a b with _ | _ <;> rcases h2 : bt ys a b with _ | _
  · rw [h1, h2] at hd; exact absurd rfl hd
  · rw [h1] at hx; rw [h2] at hy
    rw [← hx, ← hy]
    exact decide_eq_true (cdAll_lt xs ys n (cdRow_lt xs ys a (by simp)))
  · rw [h1] at hx; rw [h2] at hy
    rw [← hx, ← hy]
    exact decide_eq_false (Nat.not_lt.2 (Nat.le_of_lt (cdAll_lt ys xs n (cdRow_lt ys xs a (by simp)))))
  · rw [h1, h2] at hd; exact absurd rfl hd
theorem l02Beats_bt (n : Nat) (sl : Value) (xs : List Int) (a b : Nat) (w : World) (h : Rd w sl xs) (hp : tourP n xs) (ha : a < xs.length) (hb : b ≤ 63) :
    Calls Try.prog 76 #[.agg #[.int .i64 n, sl], .int .i64 a, .int .i64 b] w fun e w' => e = .returned (.bool (bt xs a b)) ∧ Below w.heap.size w w' :=
  (l02Beats_any n sl xs a b w h (by omega) (by omega) (by omega) (by omega)).mono fun _ _ ⟨h1, h2⟩ => ⟨by
    rw [h1]
    obtain ⟨S, e, -⟩ := (tour_bits hp).1 a ha
    exact ret_bool (bitI_bt e), h2⟩
set_option maxHeartbeats 4000000 in
theorem l11Less_any (n : Nat) (sl tl : Value) (xs ys : List Int) (w : World) (h : Rd w sl xs) (h2 : Rd w tl ys) (hp : tourP n xs) (hq : tourP n ys) :
    Calls Try.prog 50 #[.agg #[.int .i64 n, sl], .agg #[.int .i64 n, tl]] w fun e w' => e = .returned (.bool (decide (codeN xs < codeN ys))) ∧ Below w.heap.size w w' := by
  have HR := Lib.hid h
  have HS := Lib.hid h2
  obtain ⟨A, c, rfl, -, hcm, -⟩ := h
  obtain ⟨A2, c2, rfl, -, hcm2, -⟩ := h2
  unfold maxLen at hcm hcm2
  have hp1 := hp.1
  have hpl := hp.2.1
  have hql := hq.2.1
  have HP := Lib.hid hp
  have HQ := Lib.hid hq
  clear hp hq
  generalize hln : xs.length = m at *
  generalize hln2 : ys.length = m2 at *
  obtain rfl : m = n := by omega
  obtain rfl : m2 = m := by omega
  have HL := Lib.hid hln
  have HL2 := Lib.hid hln2
  have HC : Hid (cdAll xs m2 m2 0 0 = codeN xs) := by unfold Hid codeN; rw [hln]
  have HC2 : Hid (cdAll ys m2 m2 0 0 = codeN ys) := by unfold Hid codeN; rw [hln2]
  clear hln hln2 hpl hql
  have x3 := (TBox.new w m2 (.slice A m2 c) 27).below (below_alloc1 _ (.cells #[.int .i64 m2, .slice A2 m2 c2] 27))
  have t3 := TBox.new (w.alloc (.cells #[.int .i64 m2, .slice A m2 c] 27)) m2 (.slice A2 m2 c2) 27
  have b3 := (below_alloc1 w (.cells #[.int .i64 m2, .slice A m2 c] 27)).alloc (by simp) (.cells #[.int .i64 m2, .slice A2 m2 c2] 27)
  simp only [World.size_alloc] at t3
  go_enter Try.func50, Try.ntmps50
  go_wp2_with fail
  generalize (w.alloc (.cells #[.int .i64 m2, .slice A m2 c] 27)).alloc (.cells #[.int .i64 m2, .slice A2 m2 c2] 27) = w0 at *
  have HX0 := Lib.hid x3
  have HY0 := Lib.hid t3
  have HB0 := Lib.hid b3
  clear x3 t3 b3
  have y0 := HX0.out.1
  have y1 := HX0.out.2
  go_wp2_with fail
  clear y0 y1
  go_loopw [10] (fun i wr => ∃ (a cc : Nat), a ≤ m2 ∧ i = .int .i64 a ∧ Hid (cdAll xs m2 (m2 - a) a cc = codeN xs) ∧ Hid (cdAll ys m2 (m2 - a) a cc = codeN ys) ∧ Hid (TBox wr w.heap.size m2 (.slice A m2 c)) ∧ Hid (TBox wr (w.heap.size + 1) m2 (.slice A2 m2 c2)) ∧ Hid (Below w.heap.size w wr)) (fun i _ => m2 - (intOf i).toNat)
  case atStart => exact ⟨0, 0, by omega, rfl, HC.out, HC2.out, HX0.out, HY0.out, HB0.out⟩
  case round =>
    obtain ⟨wo, rfl⟩ : ∃ x, x = wr := ⟨_, rfl⟩
    obtain ⟨a, cc, ha, rfl, HA, HA2, HX, HY, HB⟩ := hrel
    by_cases hlt : a < m2
    · have HAr : Hid (cdAll xs m2 (m2 - (a + 1)) (a + 1) (cdRow xs a (m2 - (a + 1)) (a + 1) cc) = codeN xs) := by have := HA.out; rw [show m2 - a = (m2 - (a + 1)) + 1 by omega] at this; exact this
      have HAs : Hid (cdAll ys m2 (m2 - (a + 1)) (a + 1) (cdRow ys a (m2 - (a + 1)) (a + 1) cc) = codeN ys) := by have := HA2.out; rw [show m2 - a = (m2 - (a + 1)) + 1 by omega] at this; exact this
      go_wp2_with fail
      go_loopw [6] (fun i wr => ∃ (b cb : Nat), a + 1 ≤ b ∧ b ≤ m2 ∧ i = .int .i64 b ∧ Hid (cdAll xs m2 (m2 - (a + 1)) (a + 1) (cdRow xs a (m2 - b) b cb) = codeN xs) ∧ Hid (cdAll ys m2 (m2 - (a + 1)) (a + 1) (cdRow ys a (m2 - b) b cb) = codeN ys) ∧ Hid (TBox wr w.heap.size m2 (.slice A m2 c)) ∧ Hid (TBox wr (w.heap.size + 1) m2 (.slice A2 m2 c2)) ∧ Hid (Below w.heap.size w wr)) (fun i _ => m2 - (intOf i).toNat)
      case atStart => exact ⟨a + 1, cc, Nat.le_refl _, hlt, by go_num, HAr.out, HAs.out, HX.out, HY.out, HB.out⟩
      case round =>
        obtain ⟨wi, rfl⟩ : ∃ x, x = wr := ⟨_, rfl⟩
        obtain ⟨b, cb, hb1, hb, rfl, HD, HE, HXi, HYi, HBi⟩ := hrel
        have y0 := HXi.out.1
        by_cases hbm : b < m2
        · have y1 := HXi.out.2
          have z0 := HYi.out.1
          have z1 := HYi.out.2
          go_wp2_with fail
          rcases q1 : bt xs a b with _ | _ <;> rcases q2 : bt ys a b with _ | _
          · have k1 := quiet_below (w := wi) (fun W hW => l02Beats_bt m2 (.slice A m2 c) xs a b W (HR.out.below (Below.then HBi.out hW)) HP.out (by rw [HL.out]; exact hlt) (by omega))
            have k2 := quiet_below (w := wi) (fun W hW => l02Beats_bt m2 (.slice A2 m2 c2) ys a b W (HS.out.below (Below.then HBi.out hW)) HQ.out (by rw [HL2.out]; exact hlt) (by omega))
            rw [q1] at k1
            rw [q2] at k2
            have u0 := cell_regrown y0
            have u1 := cell_regrown y1
            have u2 := cell_regrown z0
            have u3 := cell_regrown z1
            clear y0 y1 z0 z1
            refine wp_region_below (by kernel_rfl) (by kernel_rfl) ?_
            repeat (go_big_quiet_step (first | (with_reducible exact k1 _ _) | (with_reducible exact k2 _ _)))
            refine wpQuiet_nil ?_
            intro wq hbq
            clear k1 k2 u0 u1 u2 u3
            have HXq := Lib.hid (HXi.out.below hbq)
            have HYq := Lib.hid (HYi.out.below hbq)
            have HBq := Lib.hid (Below.then HBi.out hbq)
            clear hbq
            have HDn : Hid (cdAll xs m2 (m2 - (a + 1)) (a + 1) (cdRow xs a (m2 - (b + 1)) (b + 1) (2 * cb + 0)) = codeN xs) := by have := HD.out; rw [show m2 - b = (m2 - (b + 1)) + 1 by omega, cdRow, q1] at this; exact this
            have HEn : Hid (cdAll ys m2 (m2 - (a + 1)) (a + 1) (cdRow ys a (m2 - (b + 1)) (b + 1) (2 * cb + 0)) = codeN ys) := by have := HE.out; rw [show m2 - b = (m2 - (b + 1)) + 1 by omega, cdRow, q2] at this; exact this
            go_wp2
            go_roundw
            case rel => exact ⟨b + 1, 2 * cb + 0, by omega, by omega, by go_num, HDn.out, HEn.out, HXq.out, HYq.out, HBq.out⟩
            case measure => simp [intOf]; omega
          · have k1 := quiet_below (w := wi) (fun W hW => l02Beats_bt m2 (.slice A m2 c) xs a b W (HR.out.below (Below.then HBi.out hW)) HP.out (by rw [HL.out]; exact hlt) (by omega))
            have k2 := quiet_below (w := wi) (fun W hW => l02Beats_bt m2 (.slice A2 m2 c2) ys a b W (HS.out.below (Below.then HBi.out hW)) HQ.out (by rw [HL2.out]; exact hlt) (by omega))
            rw [q1] at k1
            rw [q2] at k2
            have u0 := cell_regrown y0
            have u1 := cell_regrown y1
            have u2 := cell_regrown z0
            have u3 := cell_regrown z1
            clear y0 y1 z0 z1
            refine wp_region_below (by kernel_rfl) (by kernel_rfl) ?_
            repeat (go_big_quiet_step (first | (with_reducible exact k1 _ _) | (with_reducible exact k2 _ _)))
            refine wpQuiet_nil ?_
            intro wq hbq
            clear k1 k2 u0 u1 u2 u3
            have HXq := Lib.hid (HXi.out.below hbq)
            have HYq := Lib.hid (HYi.out.below hbq)
            have HBq := Lib.hid (Below.then HBi.out hbq)
            clear hbq
            have HF := Lib.hid (code_first (xs := xs) (ys := ys) hbm hlt HD.out HE.out (by rw [q1, q2]; decide))
            rw [q2] at HF
            have v0 := HYq.out.1
            have v1 := HYq.out.2
            go_wp2_with (go_at_call 76; refine (l02Beats_bt m2 (.slice A2 m2 c2) ys a b wq (HS.out.below HBq.out) HQ.out (by rw [HL2.out]; exact hlt) (by omega)).mono ?_; rintro e w9 ⟨rfl, hb9⟩; rw [q2]; have HB9 := Lib.hid (Below.then HBq.out hb9); clear hb9)
            go_ret
            exact ⟨ret_bool HF.out.symm, HB9.out⟩
          · have k1 := quiet_below (w := wi) (fun W hW => l02Beats_bt m2 (.slice A m2 c) xs a b W (HR.out.below (Below.then HBi.out hW)) HP.out (by rw [HL.out]; exact hlt) (by omega))
            have k2 := quiet_below (w := wi) (fun W hW => l02Beats_bt m2 (.slice A2 m2 c2) ys a b W (HS.out.below (Below.then HBi.out hW)) HQ.out (by rw [HL2.out]; exact hlt) (by omega))
            rw [q1] at k1
            rw [q2] at k2
            have u0 := cell_regrown y0
            have u1 := cell_regrown y1
            have u2 := cell_regrown z0
            have u3 := cell_regrown z1
            clear y0 y1 z0 z1
            refine wp_region_below (by kernel_rfl) (by kernel_rfl) ?_
            repeat (go_big_quiet_step (first | (with_reducible exact k1 _ _) | (with_reducible exact k2 _ _)))
            refine wpQuiet_nil ?_
            intro wq hbq
            clear k1 k2 u0 u1 u2 u3
            have HXq := Lib.hid (HXi.out.below hbq)
            have HYq := Lib.hid (HYi.out.below hbq)
            have HBq := Lib.hid (Below.then HBi.out hbq)
            clear hbq
            have HF := Lib.hid (code_first (xs := xs) (ys := ys) hbm hlt HD.out HE.out (by rw [q1, q2]; decide))
            rw [q2] at HF
            have v0 := HYq.out.1
            have v1 := HYq.out.2
            go_wp2_with (go_at_call 76; refine (l02Beats_bt m2 (.slice A2 m2 c2) ys a b wq (HS.out.below HBq.out) HQ.out (by rw [HL2.out]; exact hlt) (by omega)).mono ?_; rintro e w9 ⟨rfl, hb9⟩; rw [q2]; have HB9 := Lib.hid (Below.then HBq.out hb9); clear hb9)
            go_ret
            exact ⟨ret_bool HF.out.symm, HB9.out⟩
          · have k1 := quiet_below (w := wi) (fun W hW => l02Beats_bt m2 (.slice A m2 c) xs a b W (HR.out.below (Below.then HBi.out hW)) HP.out (by rw [HL.out]; exact hlt) (by omega))
            have k2 := quiet_below (w := wi) (fun W hW => l02Beats_bt m2 (.slice A2 m2 c2) ys a b W (HS.out.below (Below.then HBi.out hW)) HQ.out (by rw [HL2.out]; exact hlt) (by omega))
            rw [q1] at k1
            rw [q2] at k2
            have u0 := cell_regrown y0
            have u1 := cell_regrown y1
            have u2 := cell_regrown z0
            have u3 := cell_regrown z1
            clear y0 y1 z0 z1
            refine wp_region_below (by kernel_rfl) (by kernel_rfl) ?_
            repeat (go_big_quiet_step (first | (with_reducible exact k1 _ _) | (with_reducible exact k2 _ _)))
            refine wpQuiet_nil ?_
            intro wq hbq
            clear k1 k2 u0 u1 u2 u3
            have HXq := Lib.hid (HXi.out.below hbq)
            have HYq := Lib.hid (HYi.out.below hbq)
            have HBq := Lib.hid (Below.then HBi.out hbq)
            clear hbq
            have HDn : Hid (cdAll xs m2 (m2 - (a + 1)) (a + 1) (cdRow xs a (m2 - (b + 1)) (b + 1) (2 * cb + 1)) = codeN xs) := by have := HD.out; rw [show m2 - b = (m2 - (b + 1)) + 1 by omega, cdRow, q1] at this; exact this
            have HEn : Hid (cdAll ys m2 (m2 - (a + 1)) (a + 1) (cdRow ys a (m2 - (b + 1)) (b + 1) (2 * cb + 1)) = codeN ys) := by have := HE.out; rw [show m2 - b = (m2 - (b + 1)) + 1 by omega, cdRow, q2] at this; exact this
            go_wp2
            go_roundw
            case rel => exact ⟨b + 1, 2 * cb + 1, by omega, by omega, by go_num, HDn.out, HEn.out, HXq.out, HYq.out, HBq.out⟩
            case measure => simp [intOf]; omega
        · obtain rfl : b = m2 := by omega
          have HD2 : Hid (cdAll xs b (b - (a + 1)) (a + 1) cb = codeN xs) := by have := HD.out; rw [Nat.sub_self] at this; exact this
          have HE2 : Hid (cdAll ys b (b - (a + 1)) (a + 1) cb = codeN ys) := by have := HE.out; rw [Nat.sub_self] at this; exact this
          go_wp2
          go_roundw
          case rel => exact ⟨a + 1, cb, by omega, by go_num, HD2.out, HE2.out, HXi.out, HYi.out, HBi.out⟩
          case measure => simp [intOf]; omega
    · obtain rfl : a = m2 := by omega
      have h1 := HA.out
      have h2 := HA2.out
      rw [Nat.sub_self] at h1 h2
      have HF : Hid (decide (codeN xs < codeN ys) = false) := decide_eq_false (by rw [← h1, ← h2]; exact Nat.lt_irrefl _)
      clear h1 h2
      go_wp2
      go_ret
      exact ⟨ret_bool HF.out.symm, HB.out⟩
set_option maxHeartbeats 4000000 in
theorem l08Copy_any (n : Nat) (sl : Value) (xs : List Int) (w : World) (h : Rd w sl xs) (hl : xs.length = n) (h1 : 1 ≤ n) (h8 : n ≤ 8) :
    Calls Try.prog 49 #[.agg #[.int .i64 n, sl]] w fun e w' => ∃ sl', e = .returned (.agg #[.int .i64 n, sl']) ∧ Own w' w.heap.size sl' xs ∧ Below w.heap.size w w' := by
  have HR := Lib.hid h
  obtain ⟨A, c, rfl, -, hcm, hcc⟩ := h
  obtain ⟨g, off, rfl, hg, hx⟩ := hcc (by omega)
  unfold maxLen at hcm
  rw [hl] at hx
  have HLL := Lib.hid hl
  rw [hl] at HR ⊢
  have x3 := (TBox.new w n (.slice (some ⟨g, off, none⟩) n c) 27).below (below_alloc1 _ (.cells #[.int .i64 0, .slice none 0 0] 27))
  have t3 := BoxF.new (w.alloc (.cells #[.int .i64 n, .slice (some ⟨g, off, none⟩) n c] 27)) 0 (.slice none 0 0) 27
  have b3 := (below_alloc1 w (.cells #[.int .i64 n, .slice (some ⟨g, off, none⟩) n c] 27)).alloc (by simp) (.cells #[.int .i64 0, .slice none 0 0] 27)
  simp only [World.size_alloc] at t3
  have HX0x := Lib.hid hx
  clear hl hx hcc
  go_enter Try.func49, Try.ntmps49
  go_wp2_with fail
  generalize (w.alloc (.cells #[.int .i64 n, .slice (some ⟨g, off, none⟩) n c] 27)).alloc (.cells #[.int .i64 0, .slice none 0 0] 27) = w0 at *
  have HX0 := Lib.hid x3
  have HT0 := Lib.hid t3
  have HB0 := Lib.hid b3
  clear x3 t3 b3
  have hgw : g < w0.heap.size := Nat.lt_of_lt_of_le hg HB0.out.size
  have y0 := HX0.out.1
  have y1 := HX0.out.2
  have HLE := Lib.hid (show Own (w0.drew.alloc (.cells #[] 3)) w0.heap.size (.slice (some ⟨w0.heap.size, 0, none⟩) 0 0) [] from Own.lit w0.drew w0.heap.size [] (Nat.le_refl _) (by simp))
  have bD : Below w0.heap.size w0 (w0.drew.alloc (.cells #[] 3)) := ((Below.refl _ _).drew).alloc (Nat.le_refl _) _
  have HC8 : Hid (∀ k, k < n → (w0.drew.alloc (.cells #[] 3)).cell? ((⟨g, off, none⟩ : Addr).add k) = some (.int .i64 (xs.getD k 0))) := fun k hk => by
    rw [Addr.add_lit]
    exact (bD.cell (p := ⟨g, off + k, none⟩) hgw).trans ((HB0.out.cell (p := ⟨g, off + k, none⟩) hg).trans (HX0x.out k hk))
  have hl8 : ([] : List Int).length + n ≤ 1099511627776 := by simp; omega
  have hrb := HT0.out.gt
  have e0 := (show TBox w0.drew w.heap.size n (.slice (some ⟨g, off, none⟩) n c) from HX0.out)
  have e0' := HX0.out.below bD
  have a0 := e0'.1
  have a1 := e0'.2
  go_region_held3 (fun W => W.cell? ⟨w.heap.size, 0, none⟩ = some (.int .i64 n) ∧ W.cell? ⟨w.heap.size, 1, none⟩ = some (.slice (some ⟨g, off, none⟩) n c))
    (first | exact ⟨y0, y1⟩ | exact ⟨a0, a1⟩ | exact ⟨c0, c1⟩ | exact ⟨d0, d1⟩)
    (first
      | (refine step_appendNI (w0.drew.alloc (.cells #[] 3)) rfl (.tmp 5) (.tmp 7) rfl w0.heap.size (.slice (some ⟨w0.heap.size, 0, none⟩) 0 0) [] xs n HLL.out ⟨g, off, none⟩ c (by simp [Act.eval]) HLE.out (by simp [Act.eval]) HC8.out hl8 (by simp) ?_; intro v8 w8 ho8 hg8; obtain ⟨Y8, c8, e8, -, -, -⟩ := (show Own w8 w0.heap.size v8 xs from ho8).form; rw [HLL.out] at e8; subst e8; have HO8 := Lib.hid (show Own w8 w0.heap.size (.slice Y8 n c8) xs from ho8); have B8 := Lib.hid (bD.grown hg8 (by simp) (fun k hk => by injection hk with hk; have hk : w0.heap.size = k := hk; omega)); have X8 := HX0.out.below B8.out; have c0 := X8.1; have c1 := X8.2; have T8 := HT0.out.below B8.out; have v0 := T8.1.1; have v1 := T8.1.2; have f0 := T8.2 0; have f1 := T8.2 1; have D8 := (X8.kept (setCell_grown w8 ⟨w.heap.size + 1, 0, none⟩ (.int .i64 n)) (by simp)).kept (setCell_grown _ ⟨w.heap.size + 1, 1, none⟩ (.slice Y8 n c8)) (by simp); have d0 := D8.1; have d1 := D8.2; clear ho8 hg8))
  all_goals
    have HBx := Lib.hid (((Below.then HB0.out B8.out).setCell (p := ⟨w.heap.size + 1, 0, none⟩) (show w.heap.size ≤ w.heap.size + 1 by omega) (.int .i64 n)).setCell (p := ⟨w.heap.size + 1, 1, none⟩) (show w.heap.size ≤ w.heap.size + 1 by omega) (.slice Y8 n c8))
    have HOx := Lib.hid ((HO8.out.kept (setCell_grown _ ⟨w.heap.size + 1, 0, none⟩ (.int .i64 n)) (own_ne (fun k hk => (HO8.out.lt k hk).1) hrb)).kept (setCell_grown _ ⟨w.heap.size + 1, 1, none⟩ (.slice Y8 n c8)) (own_ne (fun k hk => (HO8.out.lt k hk).1) hrb))
    have R0 : Hid (((w8.setCell ⟨w.heap.size + 1, 0, none⟩ (.int .i64 n)).setCell ⟨w.heap.size + 1, 1, none⟩ (.slice Y8 n c8)).cell? ⟨w.heap.size + 1, 0, none⟩ = some (.int .i64 n)) := (World.cell?_setCell_other _ _ _ _ (by simp)).trans (World.cell?_setCell_same _ _ _ v0)
    have R1 : Hid (((w8.setCell ⟨w.heap.size + 1, 0, none⟩ (.int .i64 n)).setCell ⟨w.heap.size + 1, 1, none⟩ (.slice Y8 n c8)).cell? ⟨w.heap.size + 1, 1, none⟩ = some (.slice Y8 n c8)) := World.cell?_setCell_same _ _ _ ((World.cell?_setCell_other _ _ _ _ (by simp)).trans v1)
    have hsw := HB0.out.size
    go_wp2
    have r0 := R0.out
    have r1 := R1.out
    refine bodyPost_ret (v := .agg #[.int .i64 n, .slice Y8 n c8]) (by simp only [results, Try.results49]; simp [go_sem, r0, r1]) rfl ⟨_, rfl, HOx.out.mono hsw, HBx.out⟩
end Go.Proofs.Ytceeplhkokajhab
