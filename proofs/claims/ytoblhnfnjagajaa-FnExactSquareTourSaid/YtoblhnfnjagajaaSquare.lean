/- FnExactSquareTour: the functions. -/
import Derived.Test.YtoblhnfnjagajaaRot2
namespace Go.Proofs.Ytoblhnfnjagajaa
open Go.RowKit Go.Sort
set_option maxRecDepth 100000
noncomputable def sqS (p : Int) : Int := if p = 3 then rtS 3 [1] else if p = 7 then rtS 7 [1, 2, 4] else 0
noncomputable def sqL (p : Int) : List Int := if p = 3 then rtL 3 [1] else if p = 7 then rtL 7 [1, 2, 4] else []
noncomputable def sqOk (p : Int) : Bool := if p = 3 then connB 3 [1] else if p = 7 then connB 7 [1, 2, 4] else false
theorem sqL_len (p : Int) : (sqL p).length ≤ 8 := by
  unfold sqL
  repeat' split
  · exact rtL_len _ _
  · exact rtL_len _ _
  · simp
set_option maxHeartbeats 1000000 in
theorem implSquare (p : Int) (w : World) :
    Calls Try.prog 55 #[.int .i64 p] w fun e w' => ∃ sl', e = .returned (.tuple #[.agg #[.int .i64 (sqS p), sl'], .bool (sqOk p)]) ∧ Own w' w.heap.size sl' (sqL p) ∧ Below w.heap.size w w' := by
  have b0 := below_alloc1 w (.cells #[.int .i64 0, .slice none 0 0] 65)
  have t0 := BoxF.new w 0 (.slice none 0 0) 65
  have HB0 := Lib.hid b0
  have HT0 := Lib.hid t0
  clear b0 t0
  by_cases h3 : p = 3
  · subst h3
    have e1 : sqS 3 = rtS 3 [1] := by simp [sqS]
    have e2 : sqL 3 = rtL 3 [1] := by simp [sqL]
    have e3 : sqOk 3 = connB 3 [1] := by simp [sqOk]
    rw [e1, e2, e3]
    have bL := below_alloc1 (w.alloc (.cells #[.int .i64 0, .slice none 0 0] 65)) (.cells #[.int .i64 1] 3)
    have HR : Hid (Rd ((w.alloc (.cells #[.int .i64 0, .slice none 0 0] 65)).alloc (.cells #[.int .i64 1] 3)) (.slice (some ⟨w.heap.size + 1, 0, none⟩) 1 1) [1]) := by
      have := (Own.lit (w.alloc (.cells #[.int .i64 0, .slice none 0 0] 65)) w.heap.size [1] (by simp) (by simp)).rd
      simpa [Hid] using this
    have HT1 := Lib.hid (HT0.out.below bL)
    have HB1 := Lib.hid (Below.then HB0.out bL)
    clear bL
    go_enter Try.func55, Try.ntmps55
    go_wp2_with fail
    refine (implRot 3 (.slice (some ⟨w.heap.size + 1, 0, none⟩) 1 1) [1] ((w.alloc (.cells #[.int .i64 0, .slice none 0 0] 65)).alloc (.cells #[.int .i64 1] 3)) HR.out).mono ?_
    rintro e w1 ⟨sl', rfl, ho, hb1⟩
    obtain ⟨Y, cy, rfl, -, -, -⟩ := ho.form
    have hT1 := HT1.out.below hb1
    have hgt := HT1.out.gt
    have HB2 := Lib.hid (Below.then HB1.out hb1)
    have v0 := hT1.1.1
    have v1 := hT1.1.2
    have f0 := hT1.2 0
    have f1 := hT1.2 1
    clear hT1 hb1
    generalize hL : rtL 3 [1] = L at *
    generalize hS : rtS 3 [1] = S at *
    generalize hC : connB 3 [1] = C at *
    have HOx := Lib.hid ((ho.kept (setCell_grown _ ⟨w.heap.size, 0, none⟩ (.int .i64 S)) (own_ne (fun k hk => (ho.lt k hk).1) hgt)).kept (setCell_grown _ ⟨w.heap.size, 1, none⟩ (.slice Y L.length cy)) (own_ne (fun k hk => (ho.lt k hk).1) hgt))
    have HBx := Lib.hid ((HB2.out.setCell (p := ⟨w.heap.size, 0, none⟩) (Nat.le_refl _) (.int .i64 S)).setCell (p := ⟨w.heap.size, 1, none⟩) (Nat.le_refl _) (.slice Y L.length cy))
    have R0 : Hid (((w1.setCell ⟨w.heap.size, 0, none⟩ (.int .i64 S)).setCell ⟨w.heap.size, 1, none⟩ (.slice Y L.length cy)).cell? ⟨w.heap.size, 0, none⟩ = some (.int .i64 S)) := (World.cell?_setCell_other _ _ _ _ (by simp)).trans (World.cell?_setCell_same _ _ _ v0)
    have R1 : Hid (((w1.setCell ⟨w.heap.size, 0, none⟩ (.int .i64 S)).setCell ⟨w.heap.size, 1, none⟩ (.slice Y L.length cy)).cell? ⟨w.heap.size, 1, none⟩ = some (.slice Y L.length cy)) := World.cell?_setCell_same _ _ _ ((World.cell?_setCell_other _ _ _ _ (by simp)).trans v1)
    clear ho
    go_wp2
    have r0 := R0.out
    have r1 := R1.out
    refine bodyPost_ret (v := .tuple #[.agg #[.int .i64 S, .slice Y L.length cy], .bool C]) (by simp only [results, Try.results55]; simp [go_sem, r0, r1]) rfl ⟨_, by first | rfl | (rw [hS, hC]), by first | (rw [hL]; exact HOx.out.mono (Nat.le_of_lt hgt)) | exact HOx.out.mono (Nat.le_of_lt hgt), HBx.out⟩
  by_cases h7 : p = 7
  · subst h7
    have e1 : sqS 7 = rtS 7 [1, 2, 4] := by simp [sqS]
    have e2 : sqL 7 = rtL 7 [1, 2, 4] := by simp [sqL]
    have e3 : sqOk 7 = connB 7 [1, 2, 4] := by simp [sqOk]
    rw [e1, e2, e3]
    have bL := below_alloc1 (w.alloc (.cells #[.int .i64 0, .slice none 0 0] 65)) (.cells #[.int .i64 1, .int .i64 2, .int .i64 4] 3)
    have HR : Hid (Rd ((w.alloc (.cells #[.int .i64 0, .slice none 0 0] 65)).alloc (.cells #[.int .i64 1, .int .i64 2, .int .i64 4] 3)) (.slice (some ⟨w.heap.size + 1, 0, none⟩) 3 3) [1, 2, 4]) := by
      have := (Own.lit (w.alloc (.cells #[.int .i64 0, .slice none 0 0] 65)) w.heap.size [1, 2, 4] (by simp) (by simp)).rd
      simpa [Hid] using this
    have HT1 := Lib.hid (HT0.out.below bL)
    have HB1 := Lib.hid (Below.then HB0.out bL)
    clear bL
    go_enter Try.func55, Try.ntmps55
    go_wp2_with fail
    refine (implRot 7 (.slice (some ⟨w.heap.size + 1, 0, none⟩) 3 3) [1, 2, 4] ((w.alloc (.cells #[.int .i64 0, .slice none 0 0] 65)).alloc (.cells #[.int .i64 1, .int .i64 2, .int .i64 4] 3)) HR.out).mono ?_
    rintro e w1 ⟨sl', rfl, ho, hb1⟩
    obtain ⟨Y, cy, rfl, -, -, -⟩ := ho.form
    have hT1 := HT1.out.below hb1
    have hgt := HT1.out.gt
    have HB2 := Lib.hid (Below.then HB1.out hb1)
    have v0 := hT1.1.1
    have v1 := hT1.1.2
    have f0 := hT1.2 0
    have f1 := hT1.2 1
    clear hT1 hb1
    generalize hL : rtL 7 [1, 2, 4] = L at *
    generalize hS : rtS 7 [1, 2, 4] = S at *
    generalize hC : connB 7 [1, 2, 4] = C at *
    have HOx := Lib.hid ((ho.kept (setCell_grown _ ⟨w.heap.size, 0, none⟩ (.int .i64 S)) (own_ne (fun k hk => (ho.lt k hk).1) hgt)).kept (setCell_grown _ ⟨w.heap.size, 1, none⟩ (.slice Y L.length cy)) (own_ne (fun k hk => (ho.lt k hk).1) hgt))
    have HBx := Lib.hid ((HB2.out.setCell (p := ⟨w.heap.size, 0, none⟩) (Nat.le_refl _) (.int .i64 S)).setCell (p := ⟨w.heap.size, 1, none⟩) (Nat.le_refl _) (.slice Y L.length cy))
    have R0 : Hid (((w1.setCell ⟨w.heap.size, 0, none⟩ (.int .i64 S)).setCell ⟨w.heap.size, 1, none⟩ (.slice Y L.length cy)).cell? ⟨w.heap.size, 0, none⟩ = some (.int .i64 S)) := (World.cell?_setCell_other _ _ _ _ (by simp)).trans (World.cell?_setCell_same _ _ _ v0)
    have R1 : Hid (((w1.setCell ⟨w.heap.size, 0, none⟩ (.int .i64 S)).setCell ⟨w.heap.size, 1, none⟩ (.slice Y L.length cy)).cell? ⟨w.heap.size, 1, none⟩ = some (.slice Y L.length cy)) := World.cell?_setCell_same _ _ _ ((World.cell?_setCell_other _ _ _ _ (by simp)).trans v1)
    clear ho
    go_wp2
    have r0 := R0.out
    have r1 := R1.out
    refine bodyPost_ret (v := .tuple #[.agg #[.int .i64 S, .slice Y L.length cy], .bool C]) (by simp only [results, Try.results55]; simp [go_sem, r0, r1]) rfl ⟨_, by first | rfl | (rw [hS, hC]), by first | (rw [hL]; exact HOx.out.mono (Nat.le_of_lt hgt)) | exact HOx.out.mono (Nat.le_of_lt hgt), HBx.out⟩
  have e1 : sqS p = 0 := by simp [sqS, h3, h7]
  have e2 : sqL p = [] := by simp [sqL, h3, h7]
  have e3 : sqOk p = false := by simp [sqOk, h3, h7]
  rw [e1, e2, e3]
  have g3 : (p == 3) = false := by simp [h3]
  have g7 : (p == 7) = false := by simp [h7]
  have HBx := Lib.hid ((HB0.out.setCell (p := ⟨w.heap.size, 0, none⟩) (Nat.le_refl _) (.int .i64 0)).setCell (p := ⟨w.heap.size, 1, none⟩) (Nat.le_refl _) (.slice none 0 0))
  go_enter Try.func55, Try.ntmps55
  go_wp2
  refine bodyPost_ret (v := .tuple #[.agg #[.int .i64 0, .slice none 0 0], .bool false]) (by simp only [results, Try.results55]; simp [go_sem]) rfl ⟨_, rfl, Own.nil_ _ _, by first | exact HBx.out | exact HB0.out⟩
set_option maxHeartbeats 1000000 in
theorem specSquare (p : Int) (w : World) :
    Calls Try.prog 54 #[.int .i64 p] w fun e w' => ∃ sl', e = .returned (.tuple #[.agg #[.int .i64 (sqS p), sl'], .bool (sqOk p)]) ∧ Own w' w.heap.size sl' (sqL p) ∧ Below w.heap.size w w' := by
  have b0 := below_alloc1 w (.cells #[.int .i64 0, .slice none 0 0] 65)
  have t0 := BoxF.new w 0 (.slice none 0 0) 65
  have HB0 := Lib.hid b0
  have HT0 := Lib.hid t0
  clear b0 t0
  by_cases h3 : p = 3
  · subst h3
    have e1 : sqS 3 = rtS 3 [1] := by simp [sqS]
    have e2 : sqL 3 = rtL 3 [1] := by simp [sqL]
    have e3 : sqOk 3 = connB 3 [1] := by simp [sqOk]
    rw [e1, e2, e3]
    have bL := below_alloc1 (w.alloc (.cells #[.int .i64 0, .slice none 0 0] 65)) (.cells #[.int .i64 1] 3)
    have HR : Hid (Rd ((w.alloc (.cells #[.int .i64 0, .slice none 0 0] 65)).alloc (.cells #[.int .i64 1] 3)) (.slice (some ⟨w.heap.size + 1, 0, none⟩) 1 1) [1]) := by
      have := (Own.lit (w.alloc (.cells #[.int .i64 0, .slice none 0 0] 65)) w.heap.size [1] (by simp) (by simp)).rd
      simpa [Hid] using this
    have HT1 := Lib.hid (HT0.out.below bL)
    have HB1 := Lib.hid (Below.then HB0.out bL)
    clear bL
    go_enter Try.func54, Try.ntmps54
    go_wp2_with fail
    refine (specRot 3 (.slice (some ⟨w.heap.size + 1, 0, none⟩) 1 1) [1] ((w.alloc (.cells #[.int .i64 0, .slice none 0 0] 65)).alloc (.cells #[.int .i64 1] 3)) HR.out).mono ?_
    rintro e w1 ⟨sl', rfl, ho, hb1⟩
    obtain ⟨Y, cy, rfl, -, -, -⟩ := ho.form
    have hT1 := HT1.out.below hb1
    have hgt := HT1.out.gt
    have HB2 := Lib.hid (Below.then HB1.out hb1)
    have v0 := hT1.1.1
    have v1 := hT1.1.2
    have f0 := hT1.2 0
    have f1 := hT1.2 1
    clear hT1 hb1
    generalize hL : rtL 3 [1] = L at *
    generalize hS : rtS 3 [1] = S at *
    generalize hC : connB 3 [1] = C at *
    have HOx := Lib.hid ((ho.kept (setCell_grown _ ⟨w.heap.size, 0, none⟩ (.int .i64 S)) (own_ne (fun k hk => (ho.lt k hk).1) hgt)).kept (setCell_grown _ ⟨w.heap.size, 1, none⟩ (.slice Y L.length cy)) (own_ne (fun k hk => (ho.lt k hk).1) hgt))
    have HBx := Lib.hid ((HB2.out.setCell (p := ⟨w.heap.size, 0, none⟩) (Nat.le_refl _) (.int .i64 S)).setCell (p := ⟨w.heap.size, 1, none⟩) (Nat.le_refl _) (.slice Y L.length cy))
    have R0 : Hid (((w1.setCell ⟨w.heap.size, 0, none⟩ (.int .i64 S)).setCell ⟨w.heap.size, 1, none⟩ (.slice Y L.length cy)).cell? ⟨w.heap.size, 0, none⟩ = some (.int .i64 S)) := (World.cell?_setCell_other _ _ _ _ (by simp)).trans (World.cell?_setCell_same _ _ _ v0)
    have R1 : Hid (((w1.setCell ⟨w.heap.size, 0, none⟩ (.int .i64 S)).setCell ⟨w.heap.size, 1, none⟩ (.slice Y L.length cy)).cell? ⟨w.heap.size, 1, none⟩ = some (.slice Y L.length cy)) := World.cell?_setCell_same _ _ _ ((World.cell?_setCell_other _ _ _ _ (by simp)).trans v1)
    clear ho
    go_wp2
    have r0 := R0.out
    have r1 := R1.out
    refine bodyPost_ret (v := .tuple #[.agg #[.int .i64 S, .slice Y L.length cy], .bool C]) (by simp only [results, Try.results54]; simp [go_sem, r0, r1]) rfl ⟨_, by first | rfl | (rw [hS, hC]), by first | (rw [hL]; exact HOx.out.mono (Nat.le_of_lt hgt)) | exact HOx.out.mono (Nat.le_of_lt hgt), HBx.out⟩
  by_cases h7 : p = 7
  · subst h7
    have e1 : sqS 7 = rtS 7 [1, 2, 4] := by simp [sqS]
    have e2 : sqL 7 = rtL 7 [1, 2, 4] := by simp [sqL]
    have e3 : sqOk 7 = connB 7 [1, 2, 4] := by simp [sqOk]
    rw [e1, e2, e3]
    have bL := below_alloc1 (w.alloc (.cells #[.int .i64 0, .slice none 0 0] 65)) (.cells #[.int .i64 1, .int .i64 2, .int .i64 4] 3)
    have HR : Hid (Rd ((w.alloc (.cells #[.int .i64 0, .slice none 0 0] 65)).alloc (.cells #[.int .i64 1, .int .i64 2, .int .i64 4] 3)) (.slice (some ⟨w.heap.size + 1, 0, none⟩) 3 3) [1, 2, 4]) := by
      have := (Own.lit (w.alloc (.cells #[.int .i64 0, .slice none 0 0] 65)) w.heap.size [1, 2, 4] (by simp) (by simp)).rd
      simpa [Hid] using this
    have HT1 := Lib.hid (HT0.out.below bL)
    have HB1 := Lib.hid (Below.then HB0.out bL)
    clear bL
    go_enter Try.func54, Try.ntmps54
    go_wp2_with fail
    refine (specRot 7 (.slice (some ⟨w.heap.size + 1, 0, none⟩) 3 3) [1, 2, 4] ((w.alloc (.cells #[.int .i64 0, .slice none 0 0] 65)).alloc (.cells #[.int .i64 1, .int .i64 2, .int .i64 4] 3)) HR.out).mono ?_
    rintro e w1 ⟨sl', rfl, ho, hb1⟩
    obtain ⟨Y, cy, rfl, -, -, -⟩ := ho.form
    have hT1 := HT1.out.below hb1
    have hgt := HT1.out.gt
    have HB2 := Lib.hid (Below.then HB1.out hb1)
    have v0 := hT1.1.1
    have v1 := hT1.1.2
    have f0 := hT1.2 0
    have f1 := hT1.2 1
    clear hT1 hb1
    generalize hL : rtL 7 [1, 2, 4] = L at *
    generalize hS : rtS 7 [1, 2, 4] = S at *
    generalize hC : connB 7 [1, 2, 4] = C at *
    have HOx := Lib.hid ((ho.kept (setCell_grown _ ⟨w.heap.size, 0, none⟩ (.int .i64 S)) (own_ne (fun k hk => (ho.lt k hk).1) hgt)).kept (setCell_grown _ ⟨w.heap.size, 1, none⟩ (.slice Y L.length cy)) (own_ne (fun k hk => (ho.lt k hk).1) hgt))
    have HBx := Lib.hid ((HB2.out.setCell (p := ⟨w.heap.size, 0, none⟩) (Nat.le_refl _) (.int .i64 S)).setCell (p := ⟨w.heap.size, 1, none⟩) (Nat.le_refl _) (.slice Y L.length cy))
    have R0 : Hid (((w1.setCell ⟨w.heap.size, 0, none⟩ (.int .i64 S)).setCell ⟨w.heap.size, 1, none⟩ (.slice Y L.length cy)).cell? ⟨w.heap.size, 0, none⟩ = some (.int .i64 S)) := (World.cell?_setCell_other _ _ _ _ (by simp)).trans (World.cell?_setCell_same _ _ _ v0)
    have R1 : Hid (((w1.setCell ⟨w.heap.size, 0, none⟩ (.int .i64 S)).setCell ⟨w.heap.size, 1, none⟩ (.slice Y L.length cy)).cell? ⟨w.heap.size, 1, none⟩ = some (.slice Y L.length cy)) := World.cell?_setCell_same _ _ _ ((World.cell?_setCell_other _ _ _ _ (by simp)).trans v1)
    clear ho
    go_wp2
    have r0 := R0.out
    have r1 := R1.out
    refine bodyPost_ret (v := .tuple #[.agg #[.int .i64 S, .slice Y L.length cy], .bool C]) (by simp only [results, Try.results54]; simp [go_sem, r0, r1]) rfl ⟨_, by first | rfl | (rw [hS, hC]), by first | (rw [hL]; exact HOx.out.mono (Nat.le_of_lt hgt)) | exact HOx.out.mono (Nat.le_of_lt hgt), HBx.out⟩
  have e1 : sqS p = 0 := by simp [sqS, h3, h7]
  have e2 : sqL p = [] := by simp [sqL, h3, h7]
  have e3 : sqOk p = false := by simp [sqOk, h3, h7]
  rw [e1, e2, e3]
  have g3 : (p == 3) = false := by simp [h3]
  have g7 : (p == 7) = false := by simp [h7]
  have HBx := Lib.hid ((HB0.out.setCell (p := ⟨w.heap.size, 0, none⟩) (Nat.le_refl _) (.int .i64 0)).setCell (p := ⟨w.heap.size, 1, none⟩) (Nat.le_refl _) (.slice none 0 0))
  go_enter Try.func54, Try.ntmps54
  go_wp2
  refine bodyPost_ret (v := .tuple #[.agg #[.int .i64 0, .slice none 0 0], .bool false]) (by simp only [results, Try.results54]; simp [go_sem]) rfl ⟨_, rfl, Own.nil_ _ _, by first | exact HBx.out | exact HB0.out⟩
end Go.Proofs.Ytoblhnfnjagajaa
