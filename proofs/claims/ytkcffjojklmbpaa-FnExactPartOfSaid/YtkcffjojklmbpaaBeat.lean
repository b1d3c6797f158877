/- FnExactDoesBeat: the two functions. -/
import Derived.Test.YtkcffjojklmbpaaTourOkS
namespace Go.Proofs.Ytkcffjojklmbpaa
open Go.RowKit Go.Sort

noncomputable def beatB (s : Int) (xs : List Int) (a b : Int) : Bool := tourB s xs && inB a 0 (s - 1) && inB b 0 (s - 1) && bitI (xs.getD a.toNat 0) b.toNat

set_option maxHeartbeats 400000 in
theorem l02Player_any (s : Int) (sl : Value) (xs : List Int) (a : Int) (w : World) (h : Rd w sl xs) :
    Calls Try.prog 75 #[.agg #[.int .i64 s, sl], .int .i64 a] w fun e w' => e = .returned (.bool (tourB s xs && inB a 0 (s - 1))) ∧ Below w.heap.size w w' := by
  have HR := Lib.hid h
  obtain ⟨A, c, rfl, -, -, -⟩ := h
  rcases hT : tourB s xs with _ | _
  · go_enter Try.func75, Try.ntmps75
    go_wp2_with fail
    refine (specTourOk _ _ xs _ (HR.out.alloc _)).mono ?_
    rintro e w1 ⟨rfl, hb⟩
    have HB := Lib.hid (Below.then (below_alloc1 _ _) hb)
    clear hb
    go_wp2
    go_ret
    exact ⟨rfl, HB.out⟩
  · have hs := (tourB_true.1 hT).1
    go_enter Try.func75, Try.ntmps75
    go_wp2_with fail
    refine (specTourOk _ _ xs _ (HR.out.alloc _)).mono ?_
    rintro e w1 ⟨rfl, hb⟩
    have hx := (TBox.new w s (.slice A xs.length c) 68).below hb
    have HB := Lib.hid (Below.then (below_alloc1 _ _) hb)
    obtain ⟨y0, y1⟩ := hx
    clear hb
    go_wp2_with (go_at_call 48; refine (l01In_any _ _ _ _).mono ?_; rintro e w2 ⟨rfl, rfl⟩)
    go_ret
    exact ⟨rfl, HB.out⟩
end Go.Proofs.Ytkcffjojklmbpaa
