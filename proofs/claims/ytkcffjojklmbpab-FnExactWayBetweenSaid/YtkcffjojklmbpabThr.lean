/- FnExactCycleThrough: impl.CycleThrough. -/
import Derived.Test.YtkcffjojklmbpabWayOn
import Derived.Test.YtkcffjojklmbpabKStep
import Derived.Test.YtkcffjojklmbpabTOf
import Derived.Test.YtkcffjojklmbpabLok
namespace Go.Proofs.Ytkcffjojklmbpab
open Go.RowKit Go.Sort
set_option maxRecDepth 100000
def cwA (xs : List Int) (a : Nat) (way : List Nat) : Bool := (winsN xs (lastN way)).testBit a
noncomputable def cycOk (s : Int) (xs : List Int) (a k : Int) : Bool := tourB s xs && inB a 0 (s - 1) && inB k 3 s
noncomputable def cycO (s : Int) (xs : List Int) (a k : Int) : Option (List Nat) := if cycOk s xs a k = true then dfs xs xs.length (cwA xs a.toNat) (k.toNat - 1) [a.toNat] else none
noncomputable def cycL (s : Int) (xs : List Int) (a k : Int) : List Int := nI ((cycO s xs a k).getD [])
theorem cycO_no {s : Int} {xs : List Int} {a k : Int} (h : cycOk s xs a k = false) : cycO s xs a k = none := by simp [cycO, h]
theorem cycL_len (s : Int) (xs : List Int) (a k : Int) : (cycL s xs a k).length ≤ 8 := by
  unfold cycL
  rw [nI_len]
  unfold cycO
  split
  · rename_i h
    rcases q : dfs xs xs.length (cwA xs a.toNat) (k.toNat - 1) [a.toNat] with _ | L
    · simp
    · have h1 := dfs_len q
      unfold cycOk at h
      rw [Bool.and_eq_true, Bool.and_eq_true] at h
      have h2 := (tourB_true.1 h.1.1).1
      have h3 := inB_true.1 h.2
      simp at h1 ⊢
      omega
  · simp
set_option maxHeartbeats 1000000 in
theorem cyc1_any (n : Nat) (sl : Value) (xs : List Int) (hp : tourP n xs) (way : List Nat) (v : Value) (k a : Nat) (gt ga gk : Nat) (W : World) (hr : Rd W sl xs) (ht : TBox W gt n sl) (ck : W.cell? ⟨gk, 0, none⟩ = some (.int .i64 k)) (ca : W.cell? ⟨ga, 0, none⟩ = some (.int .i64 a))
    (hl : way.length = k) (hk : 1 ≤ k ∧ k ≤ 8) (hx : ∀ x ∈ way, x < xs.length) (ha : a < xs.length) (h : Rd W v (nI way)) :
    Calls Try.prog 38 #[v, .pointer (some ⟨gt, 0, none⟩), .pointer (some ⟨gk, 0, none⟩), .pointer (some ⟨ga, 0, none⟩)] W fun e w' => e = .returned (.bool (cwA xs a way)) ∧ Below W.heap.size W w' := by
  have hs := hp.1
  have hsl := hp.2.1
  obtain ⟨A, c, rfl, hlc, hm, hc⟩ := h
  rw [nI_len, hl] at hlc hc
  rw [nI_len, hl]
  unfold maxLen at hm
  obtain ⟨p, hpk⟩ : ∃ p, k = p + 1 := ⟨k - 1, by omega⟩
  obtain ⟨g, off, rfl, hg, hcell⟩ := hc (by omega)
  have hlast := hcell p (by omega)
  rw [nI_getD (by omega)] at hlast
  have hlw : lastN way = way.getD p 0 := by unfold lastN; rw [hl, hpk]; rfl
  have hlt : way.getD p 0 < xs.length := hx _ (by rw [getD_nat (by omega)]; exact List.getElem_mem _)
  have hF : Hid (cwA xs a way = bitI (xs.getD (way.getD p 0) 0) a) := by unfold Hid cwA; rw [hlw]; exact (bit_nat hp hlt).symm
  have k1 := quiet_below (w := W) (fun W' hW => beats_any n sl xs (way.getD p 0 : Nat) a W' (hr.below hW) (by omega) (by omega) (by omega) (by omega))
  rw [Int.toNat_natCast, Int.toNat_natCast] at k1
  have hidx : IntKind.i64.wrap ((k : Int) - 1) = p := by rw [show (k : Int) - 1 = p by omega]; rw [IntKind.wrap_i64]; omega
  have i1 : (0 : Int) ≤ p := by omega
  have i2 : (p : Int) < k := by omega
  have i3 : p < k := by omega
  generalize way.getD p 0 = last at *
  have d1 := cell_regrown ht.1
  have d2 := cell_regrown ht.2
  have d3 := cell_regrown ck
  have d4 := cell_regrown ca
  have d5 := cell_regrown hlast
  clear ck ca hlast ht hcell hc hr hx hl hpk
  go_enter Try.func38, Try.ntmps38
  go_wp2_with fail
  refine wp_region_below (by kernel_rfl) (by kernel_rfl) ?_
  repeat (go_big_quiet_step (first | (with_reducible exact k1 _ _)))
  refine wpQuiet_nil ?_
  intro wq hbq0
  have HBQ := Lib.hid hbq0
  clear hbq0 d1 d2 d3 d4 d5 k1
  go_wp2
  go_ret
  exact ⟨ret_bool hF.out.symm, HBQ.out⟩
theorem enters_cyc1 : Enters 38 := fun _ _ => by kernel_rfl
set_option maxHeartbeats 2000000 in
theorem implCycle (s : Int) (sl : Value) (xs : List Int) (a k : Int) (w : World) (h : Rd w sl xs) :
    Calls Try.prog 12 #[.agg #[.int .i64 s, sl], .int .i64 a, .int .i64 k] w fun e w' => ∃ v', e = .returned (.tuple #[v', .bool (cycO s xs a k).isSome]) ∧ Own w' w.heap.size v' (cycL s xs a k) ∧ Below w.heap.size w w' := by
  have HR := Lib.hid h
  obtain ⟨A, c, rfl, -, -, -⟩ := h
  have b3 := ((below_alloc1 w (.cells #[.int .i64 s, .slice A xs.length c] 28)).alloc (by simp) (.cells #[.int .i64 a] 3)).alloc (by simp; omega) (.cells #[.int .i64 k] 3)
  have t0 := ((TBox.new w s (.slice A xs.length c) 28).below (below_alloc1 _ (.cells #[.int .i64 a] 3))).below (below_alloc1 _ (.cells #[.int .i64 k] 3))
  have c1 : (((w.alloc (.cells #[.int .i64 s, .slice A xs.length c] 28)).alloc (.cells #[.int .i64 a] 3)).alloc (.cells #[.int .i64 k] 3)).cell? ⟨w.heap.size + 1, 0, none⟩ = some (.int .i64 a) := by
    rw [World.cell?_alloc_lt _ _ _ (by simp)]; simp
  have c2 : (((w.alloc (.cells #[.int .i64 s, .slice A xs.length c] 28)).alloc (.cells #[.int .i64 a] 3)).alloc (.cells #[.int .i64 k] 3)).cell? ⟨w.heap.size + 1 + 1, 0, none⟩ = some (.int .i64 k) := by
    have := cell_new1 ((w.alloc (.cells #[.int .i64 s, .slice A xs.length c] 28)).alloc (.cells #[.int .i64 a] 3)) (.int .i64 k) 3
    simpa only [World.size_alloc] using this
  have HB0 := Lib.hid b3
  have HT0 := Lib.hid t0
  have C1 := Lib.hid c1
  have C2 := Lib.hid c2
  clear b3 t0 c1 c2
  have qT : ∀ (w : World) (a : Option Addr) (n c n' c' : Nat), (binOp .neq 22 (.slice a n c) (.slice none n' c')).run Try.prog w = .ok (.bool (!a.isNone)) w := fun w a n c n' c' => run_neq_slice_nil w _ _ a n c n' c' Try.underlying22
  rcases q0 : tourB s xs with _ | _
  · have hno := cycO_no (show cycOk s xs a k = false by simp [cycOk, q0])
    rw [cycL, hno]
    go_enter Try.func12, Try.ntmps12
    go_wp2_with fail
    generalize (((w.alloc (.cells #[.int .i64 s, .slice A xs.length c] 28)).alloc (.cells #[.int .i64 a] 3)).alloc (.cells #[.int .i64 k] 3)) = w0 at *
    have y0 := HT0.out.1
    have y1 := HT0.out.2
    go_wp2_with fail
    refine (implTourOk s _ xs _ (HR.out.below HB0.out)).mono ?_
    rintro e w1 ⟨rfl, hb⟩
    rw [q0]
    have HB1 := Lib.hid (Below.then HB0.out hb)
    go_wp2
    go_ret2
    exact ⟨.slice none 0 0, rfl, Own.nil_ _ _, HB1.out⟩
  have hp := tourB_true.1 q0
  have hs := hp.1
  have hsl := hp.2.1
  rcases q1 : inB a 0 (s - 1) with _ | _
  · have hno := cycO_no (show cycOk s xs a k = false by simp [cycOk, q1])
    rw [cycL, hno]
    go_enter Try.func12, Try.ntmps12
    go_wp2_with fail
    generalize (((w.alloc (.cells #[.int .i64 s, .slice A xs.length c] 28)).alloc (.cells #[.int .i64 a] 3)).alloc (.cells #[.int .i64 k] 3)) = w0 at *
    have y0 := HT0.out.1
    have y1 := HT0.out.2
    go_wp2_with fail
    refine (implTourOk s _ xs _ (HR.out.below HB0.out)).mono ?_
    rintro e w1 ⟨rfl, hb⟩
    rw [q0]
    have HB1 := Lib.hid (Below.then HB0.out hb)
    have HT1 := Lib.hid (HT0.out.below hb)
    have ca := (hb.cell (World.block_lt_of_cell? _ _ C1.out)).trans C1.out
    clear y0 y1
    have y0 := HT1.out.1
    have y1 := HT1.out.2
    go_wp2_with fail
    refine (has_any s _ a _ (by omega)).mono ?_
    rintro e w2 ⟨rfl, hb2⟩
    rw [q1]
    have HB2 := Lib.hid (Below.then HB1.out hb2)
    go_wp2
    go_ret2
    exact ⟨.slice none 0 0, rfl, Own.nil_ _ _, HB2.out⟩
  have ha := inB_true.1 q1
  obtain ⟨i, rfl⟩ := Int.eq_ofNat_of_zero_le ha.1
  rcases q2 : inB k 3 s with _ | _
  all_goals
    go_enter Try.func12, Try.ntmps12
    go_wp2_with fail
    generalize (((w.alloc (.cells #[.int .i64 s, .slice A xs.length c] 28)).alloc (.cells #[.int .i64 i] 3)).alloc (.cells #[.int .i64 k] 3)) = w0 at *
    have y0 := HT0.out.1
    have y1 := HT0.out.2
    go_wp2_with fail
    refine (implTourOk s _ xs _ (HR.out.below HB0.out)).mono ?_
    rintro e w1 ⟨rfl, hb⟩
    rw [q0]
    have HB1 := Lib.hid (Below.then HB0.out hb)
    have HT1 := Lib.hid (HT0.out.below hb)
    have C11 := Lib.hid ((hb.cell (World.block_lt_of_cell? _ _ C1.out)).trans C1.out)
    have C21 := Lib.hid ((hb.cell (World.block_lt_of_cell? _ _ C2.out)).trans C2.out)
    clear y0 y1 hb
    have y0 := HT1.out.1
    have y1 := HT1.out.2
    have ca := C11.out
    go_wp2_with fail
    refine (has_any s _ i _ (by omega)).mono ?_
    rintro e w2 ⟨rfl, hb2⟩
    rw [q1]
    have HB2 := Lib.hid (Below.then HB1.out hb2)
    have HT2 := Lib.hid (HT1.out.below hb2)
    have C12 := Lib.hid ((hb2.cell (World.block_lt_of_cell? _ _ C11.out)).trans C11.out)
    have C22 := Lib.hid ((hb2.cell (World.block_lt_of_cell? _ _ C21.out)).trans C21.out)
    clear y0 y1 ca hb2 HB0 HB1 HT0 HT1 C1 C2 C11 C21
    have y0 := HT2.out.1
    have y1 := HT2.out.2
    have ca := C12.out
    have ck := C22.out
    go_wp2_with fail
    refine (within_any _ _ _ _).mono ?_
    rintro e wz ⟨rfl, rfl⟩
    rw [q2]
  · have hno := cycO_no (show cycOk s xs i k = false by simp [cycOk, q2])
    go_wp2
    go_ret2
    exact ⟨.slice none 0 0, by rw [hno]; rfl, by rw [cycL, hno]; exact Own.nil_ _ _, HB2.out⟩
  · have hk := inB_true.1 q2
    obtain ⟨q, rfl⟩ := Int.eq_ofNat_of_zero_le (show 0 ≤ k by omega)
    have hO : Hid (cycO s xs i q = dfs xs xs.length (cwA xs i) (q - 1) [i]) := by unfold Hid cycO cycOk; rw [q0, q1, q2]; rfl
    obtain ⟨n, rfl⟩ := Int.eq_ofNat_of_zero_le (show 0 ≤ s by omega)
    have hin : i < xs.length := by omega
    have HW : WantP 38 #[.pointer (some ⟨w.heap.size, 0, none⟩), .pointer (some ⟨w.heap.size + 1 + 1, 0, none⟩), .pointer (some ⟨w.heap.size + 1, 0, none⟩)] (cwA xs i) q xs.length w2 := fun way v W hl hx hB hr =>
      cyc1_any n _ xs hp way v q i _ _ _ W ((HR.out.below HB2.out).below hB) (HT2.out.below hB) ((hB.cell (World.block_lt_of_cell? _ _ C22.out)).trans C22.out) ((hB.cell (World.block_lt_of_cell? _ _ C12.out)).trans C12.out) hl (by omega) hx hin hr
    have HRD := Lib.hid (HR.out.below HB2.out)
    have HWW := Lib.hid HW
    have HOL := Lib.hid (show Own (w2.alloc (.cells #[.int .i64 i] 3)) w2.heap.size (.slice (some ⟨w2.heap.size, 0, none⟩) 1 1) (nI [i]) from Own.lit w2 w2.heap.size [(i : Int)] (Nat.le_refl _) (by simp))
    have HP := Lib.hid hp
    have ck2 := ((below_alloc1 w2 (.cells #[.int .i64 i] 3)).cell (World.block_lt_of_cell? _ _ C22.out)).trans C22.out
    clear HW q0 q1 hp
    go_wp2_with fail
    refine (wayOn_any n _ xs HP.out 38 _ enters_cyc1 (cwA xs i) q w2 HRD.out HWW.out (by omega) (q - 1) [i] w2.heap.size _ _ (below_alloc1 _ _) (Nat.le_refl _) (by simp) HOL.out (by simp) (by simp; omega) (fun x hx => by simp at hx; omega)).mono ?_
    rintro e w3 ⟨v3, rfl, hs3, hn3, hg3, -⟩
    have HB3 := Lib.hid (Below.then HB2.out (below_of_grown (below_alloc1 w2 _) hg3 (fun x hx => by injection hx with hx; exact Nat.le_of_eq hx)))
    clear hg3
    rcases hd : dfs xs xs.length (cwA xs i) (q - 1) [i] with _ | L
    · have := hn3 hd
      subst this
      have HD := Lib.hid hd
      go_wp2
      go_ret2
      exact ⟨.slice none 0 0, by rw [hO.out, HD.out]; rfl, by rw [cycL, hO.out, HD.out]; exact Own.nil_ _ _, HB3.out⟩
    · obtain ⟨⟨g, c3, rfl⟩, ho⟩ := hs3 L hd
      have HO3 := Lib.hid (ho.mono (show w.heap.size ≤ _ by have := HB2.out.size; simp; omega))
      have HD := Lib.hid hd
      clear hs3 hn3 ho hd
      go_wp2
      go_ret2
      exact ⟨.slice (some ⟨g, 0, none⟩) q c3, by rw [hO.out, HD.out]; rfl, by rw [cycL, hO.out, HD.out]; exact HO3.out, HB3.out⟩
end Go.Proofs.Ytkcffjojklmbpab
