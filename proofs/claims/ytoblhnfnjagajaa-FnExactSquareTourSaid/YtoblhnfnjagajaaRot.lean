/- FnExactRotationalTour: the functions. -/
import Derived.Test.YtoblhnfnjagajaaTOf
import Derived.Test.YtoblhnfnjagajaaConn2
namespace Go.Proofs.Ytoblhnfnjagajaa
open Go.RowKit Go.Sort
set_option maxRecDepth 100000

def rotP (xs : List Int) (n a b : Nat) : Bool := containsI xs (((b : Int) - a + n) % n)
def rotT (xs : List Int) (n : Nat) : List Int := toL (rotP xs n) n
noncomputable def rtS (n : Int) (xs : List Int) : Int := if connB n xs = true then n else 0
noncomputable def rtL (n : Int) (xs : List Int) : List Int := if connB n xs = true then rotT xs n.toNat else []
theorem connB_iff {n : Int} {xs : List Int} : connB n xs = true ↔ connP n xs := by unfold connB; simp
theorem rtL_len (n : Int) (xs : List Int) : (rtL n xs).length ≤ 8 := by
  unfold rtL
  split
  · rename_i h
    have := (connB_iff.1 h).1
    rw [rotT, toL_len]; omega
  · simp
theorem rt_no {n : Int} {xs : List Int} (h : connB n xs = false) : rtS n xs = 0 ∧ rtL n xs = [] := by simp [rtS, rtL, h]
theorem rt_yes {n : Int} {xs : List Int} (h : connB n xs = true) : rtS n xs = n ∧ rtL n xs = rotT xs n.toNat := by simp [rtS, rtL, h]
set_option maxHeartbeats 1000000 in
theorem rot1_any (n : Nat) (xs : List Int) (v : Value) (g2 g3 a b : Nat) (W : World) (hn : n = 1 ∨ n = 3 ∨ n = 5 ∨ n = 7) (ha : a < n) (hb : b < n) (c2 : W.cell? ⟨g2, 0, none⟩ = some (.int .i64 n)) (c3 : W.cell? ⟨g3, 0, none⟩ = some v) (h : Rd W v xs) :
    Calls Try.prog 102 #[.int .i64 a, .int .i64 b, .pointer (some ⟨g3, 0, none⟩), .pointer (some ⟨g2, 0, none⟩)] W fun e w' => e = .returned (.bool (rotP xs n a b)) ∧ Below W.heap.size W w' := by
  have hr : Int.tmod ((b : Int) - a + n) n = ((b : Int) - a + n) % n := Int.tmod_eq_emod_of_nonneg (by omega)
  have hF : Hid (rotP xs n a b = containsI xs (((b : Int) - a + n) % n)) := rfl
  generalize ((b : Int) - a + n) % n = r at *
  have k1 := quiet_below (w := W) (fun W' hW => of_same (contains_any v xs r W' (h.below hW)))
  have d2 := cell_regrown c2
  have d3 := cell_regrown c3
  clear c2 c3 h
  go_enter Try.func102, Try.ntmps102
  go_wp2_with fail
  refine wp_region_below (by kernel_rfl) (by kernel_rfl) ?_
  repeat (go_big_quiet_step (first | (with_reducible exact k1 _ _)))
  refine wpQuiet_nil ?_
  intro wq hbq0
  have HBQ := Lib.hid hbq0
  clear hbq0 d2 d3 k1 hr
  go_wp2
  go_ret
  exact ⟨ret_bool hF.out.symm, HBQ.out⟩
set_option maxHeartbeats 1000000 in
theorem implRot (n : Int) (v : Value) (xs : List Int) (w : World) (h : Rd w v xs) :
    Calls Try.prog 53 #[.int .i64 n, v] w fun e w' => ∃ sl', e = .returned (.tuple #[.agg #[.int .i64 (rtS n xs), sl'], .bool (connB n xs)]) ∧ Own w' w.heap.size sl' (rtL n xs) ∧ Below w.heap.size w w' := by
  have HR := Lib.hid h
  obtain ⟨A, c, rfl, -, -, -⟩ := h
  have b3 := ((below_alloc1 w (.cells #[.int .i64 n] 3)).alloc (by simp) (.cells #[.slice A xs.length c] 45)).alloc (by simp; omega) (.cells #[.int .i64 0, .slice none 0 0] 65)
  have c0 : (((w.alloc (.cells #[.int .i64 n] 3)).alloc (.cells #[.slice A xs.length c] 45)).alloc (.cells #[.int .i64 0, .slice none 0 0] 65)).cell? ⟨w.heap.size, 0, none⟩ = some (.int .i64 n) := by
    rw [World.cell?_alloc_lt _ _ _ (by simp; omega), World.cell?_alloc_lt _ _ _ (by simp)]; simp
  have c1 : (((w.alloc (.cells #[.int .i64 n] 3)).alloc (.cells #[.slice A xs.length c] 45)).alloc (.cells #[.int .i64 0, .slice none 0 0] 65)).cell? ⟨w.heap.size + 1, 0, none⟩ = some (.slice A xs.length c) := by
    rw [World.cell?_alloc_lt _ _ _ (by simp)]
    simp
  have t0 := BoxF.new ((w.alloc (.cells #[.int .i64 n] 3)).alloc (.cells #[.slice A xs.length c] 45)) 0 (.slice none 0 0) 65
  simp only [World.size_alloc] at t0
  have HB0 := Lib.hid b3
  have HT0 := Lib.hid t0
  have C0 := Lib.hid c0
  have C1 := Lib.hid c1
  clear b3 t0 c0 c1
  rcases q0 : connB n xs with _ | _
  · rw [(rt_no q0).1, (rt_no q0).2]
    go_enter Try.func53, Try.ntmps53
    go_wp2_with fail
    generalize (((w.alloc (.cells #[.int .i64 n] 3)).alloc (.cells #[.slice A xs.length c] 45)).alloc (.cells #[.int .i64 0, .slice none 0 0] 65)) = w0 at *
    refine (implIsConnection n _ xs _ (HR.out.below HB0.out)).mono ?_
    rintro e wz ⟨rfl, rfl⟩
    rw [q0]
    have v0 := HT0.out.1.1
    have v1 := HT0.out.1.2
    have f0 := HT0.out.2 0
    have f1 := HT0.out.2 1
    have HBx := Lib.hid ((HB0.out.setCell (p := ⟨w.heap.size + 1 + 1, 0, none⟩) (show w.heap.size ≤ w.heap.size + 1 + 1 by omega) (.int .i64 0)).setCell (p := ⟨w.heap.size + 1 + 1, 1, none⟩) (show w.heap.size ≤ w.heap.size + 1 + 1 by omega) (.slice none 0 0))
    have R0 : Hid (((w0.setCell ⟨w.heap.size + 1 + 1, 0, none⟩ (.int .i64 0)).setCell ⟨w.heap.size + 1 + 1, 1, none⟩ (.slice none 0 0)).cell? ⟨w.heap.size + 1 + 1, 0, none⟩ = some (.int .i64 0)) := (World.cell?_setCell_other _ _ _ _ (by simp)).trans (World.cell?_setCell_same _ _ _ v0)
    have R1 : Hid (((w0.setCell ⟨w.heap.size + 1 + 1, 0, none⟩ (.int .i64 0)).setCell ⟨w.heap.size + 1 + 1, 1, none⟩ (.slice none 0 0)).cell? ⟨w.heap.size + 1 + 1, 1, none⟩ = some (.slice none 0 0)) := World.cell?_setCell_same _ _ _ ((World.cell?_setCell_other _ _ _ _ (by simp)).trans v1)
    go_wp2
    have r0 := R0.out
    have r1 := R1.out
    refine bodyPost_ret (v := .tuple #[.agg #[.int .i64 0, .slice none 0 0], .bool false]) (by simp only [results, Try.results53]; simp [go_sem, r0, r1]) rfl ⟨_, rfl, Own.nil_ _ _, HBx.out⟩
  · have hp := connB_iff.1 q0
    obtain ⟨m, rfl⟩ := Int.eq_ofNat_of_zero_le (show 0 ≤ n by have := hp.1; omega)
    have hm : m = 1 ∨ m = 3 ∨ m = 5 ∨ m = 7 := by have := hp.1; omega
    rw [(rt_yes q0).1, (rt_yes q0).2, show ((m : Int)).toNat = m from rfl]
    have hE : Enters 102 := fun args W => by kernel_rfl
    go_enter Try.func53, Try.ntmps53
    go_wp2_with fail
    generalize (((w.alloc (.cells #[.int .i64 m] 3)).alloc (.cells #[.slice A xs.length c] 45)).alloc (.cells #[.int .i64 0, .slice none 0 0] 65)) = w0 at *
    refine (implIsConnection m _ xs _ (HR.out.below HB0.out)).mono ?_
    rintro e wz ⟨rfl, rfl⟩
    rw [q0]
    have c0 := C0.out
    have c1 := C1.out
    go_wp2_with fail
    refine (tourOf_any m (by omega) (by omega) 102 #[.pointer (some ⟨w.heap.size + 1, 0, none⟩), .pointer (some ⟨w.heap.size, 0, none⟩)] hE (rotP xs m) _ (fun a b ha hb W hW => rot1_any m xs (.slice A xs.length c) w.heap.size (w.heap.size + 1) a b W hm ha hb ((hW.cell (World.block_lt_of_cell? _ _ C0.out)).trans C0.out) ((hW.cell (World.block_lt_of_cell? _ _ C1.out)).trans C1.out) (HR.out.below (Below.then HB0.out hW)))).mono ?_
    rintro e w1 ⟨sl', rfl, ho, hb1⟩
    obtain ⟨Y, cy, rfl, -, -, -⟩ := ho.form
    have hT1 := HT0.out.below hb1
    have hgt := HT0.out.gt
    have HB1 := Lib.hid (Below.then HB0.out hb1)
    have v0 := hT1.1.1
    have v1 := hT1.1.2
    have f0 := hT1.2 0
    have f1 := hT1.2 1
    have hF : Hid (rotT xs m = toL (rotP xs m) m) := rfl
    rw [← hF.out] at ho ⊢
    generalize hL : rotT xs m = L at *
    have HOx := Lib.hid ((ho.kept (setCell_grown _ ⟨w.heap.size + 1 + 1, 0, none⟩ (.int .i64 m)) (own_ne (fun k hk => (ho.lt k hk).1) hgt)).kept (setCell_grown _ ⟨w.heap.size + 1 + 1, 1, none⟩ (.slice Y L.length cy)) (own_ne (fun k hk => (ho.lt k hk).1) hgt))
    have HBx := Lib.hid ((HB1.out.setCell (p := ⟨w.heap.size + 1 + 1, 0, none⟩) (show w.heap.size ≤ w.heap.size + 1 + 1 by omega) (.int .i64 m)).setCell (p := ⟨w.heap.size + 1 + 1, 1, none⟩) (show w.heap.size ≤ w.heap.size + 1 + 1 by omega) (.slice Y L.length cy))
    have R0 : Hid (((w1.setCell ⟨w.heap.size + 1 + 1, 0, none⟩ (.int .i64 m)).setCell ⟨w.heap.size + 1 + 1, 1, none⟩ (.slice Y L.length cy)).cell? ⟨w.heap.size + 1 + 1, 0, none⟩ = some (.int .i64 m)) := (World.cell?_setCell_other _ _ _ _ (by simp)).trans (World.cell?_setCell_same _ _ _ v0)
    have R1 : Hid (((w1.setCell ⟨w.heap.size + 1 + 1, 0, none⟩ (.int .i64 m)).setCell ⟨w.heap.size + 1 + 1, 1, none⟩ (.slice Y L.length cy)).cell? ⟨w.heap.size + 1 + 1, 1, none⟩ = some (.slice Y L.length cy)) := World.cell?_setCell_same _ _ _ ((World.cell?_setCell_other _ _ _ _ (by simp)).trans v1)
    clear ho hT1 hb1 hp
    go_wp2
    have r0 := R0.out
    have r1 := R1.out
    refine bodyPost_ret (v := .tuple #[.agg #[.int .i64 m, .slice Y L.length cy], .bool true]) (by simp only [results, Try.results53]; simp [go_sem, r0, r1]) rfl ⟨_, rfl, by rw [hL]; exact HOx.out.mono (show w.heap.size ≤ w0.heap.size by omega), HBx.out⟩
end Go.Proofs.Ytoblhnfnjagajaa
