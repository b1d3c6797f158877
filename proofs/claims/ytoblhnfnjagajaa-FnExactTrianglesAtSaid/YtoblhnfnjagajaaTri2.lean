/- FnExactTrianglesAt: the lists of triangles. -/
import Derived.Test.YtoblhnfnjagajaaTri
namespace Go.Proofs.Ytoblhnfnjagajaa
open Go.RowKit Go.Sort
set_option maxRecDepth 100000
theorem own_row3 (w : World) (base : Nat) (a b c : Int) (hb : base ≤ w.heap.size) : Own (w.alloc (.cells #[.int .i64 a, .int .i64 b, .int .i64 c] 3)) base (.slice (some ⟨w.heap.size, 0, none⟩) 3 3) [a, b, c] := Own.lit w base [a, b, c] hb (by simp)
theorem OwnRows.alloc {w : World} {base : Nat} {v : Value} {rows : List (List Int)} (h : OwnRows w base v rows) (o : Obj) : OwnRows (w.alloc o) base v rows := h.below (below_alloc1 w o)
set_option maxHeartbeats 4000000 in
theorem triangles_any (s : Int) (sl : Value) (xs : List Int) (w : World) (h : Rd w sl xs) (hp : tourP s xs) :
    Calls Try.prog 114 #[.agg #[.int .i64 s, sl]] w fun e w' => ∃ v', e = .returned v' ∧ OwnRows w' w.heap.size v' (triA xs xs.length xs.length) ∧ Below w.heap.size w w' := by
  have HR := Lib.hid h
  obtain ⟨A, cA, rfl, -, -, -⟩ := h
  obtain ⟨n, rfl⟩ : ∃ n : Nat, s = n := ⟨s.toNat, by have := hp.1; omega⟩
  have h1 : 1 ≤ n := by have := hp.1; omega
  have h8 : n ≤ 8 := by have := hp.1; omega
  have hl : xs.length = n := by have := hp.2.1; omega
  have HL := Lib.hid hl
  clear hl hp
  go_enter Try.func114, Try.ntmps114
  go_wp2_with fail
  have b0 := below_alloc1 w (.cells #[.int .i64 n, .slice A xs.length cA] 65)
  have x0 := TBox.new w n (.slice A xs.length cA) 65
  generalize w.alloc (.cells #[.int .i64 n, .slice A xs.length cA] 65) = w0 at *
  have HX0 := Lib.hid x0
  have HB0 := Lib.hid b0
  clear x0 b0
  have y0_0 := HX0.out.1
  have y1_0 := HX0.out.2
  go_wp2
  go_loopw [3, 10] (fun v i wr => ∃ a : Nat, a ≤ n ∧ i = .int .i64 a ∧ OwnRows wr (w.heap.size + 1) v (triA xs n a) ∧ TBox wr w.heap.size n (.slice A xs.length cA) ∧ Below w.heap.size w wr) (fun _ i _ => n - (intOf i).toNat)
  case atStart => exact ⟨0, by omega, rfl, OwnRows.nil_ _ _, HX0.out, HB0.out⟩
  case round =>
    obtain ⟨wa, rfl⟩ : ∃ x, x = wr := ⟨_, rfl⟩
    obtain ⟨a, ha, rfl, ho, hx, hb⟩ := hrel
    have HO := Lib.hid ho
    have HX := Lib.hid hx
    have HB := Lib.hid hb
    have ya0 := hx.1
    clear ho hx hb y0_0 y1_0
    by_cases hlta : a < n
    · have HSA := Lib.hid (triA_succ xs n a)
      go_wp2
      go_loopw [3, 15] (fun v i wr => ∃ b : Nat, b ≤ n ∧ i = .int .i64 b ∧ OwnRows wr (w.heap.size + 1) v (triA xs n a ++ triB xs n a b) ∧ TBox wr w.heap.size n (.slice A xs.length cA) ∧ Below w.heap.size w wr) (fun _ i _ => n - (intOf i).toNat)
      case atStart => exact ⟨0, by omega, rfl, by have := HO.out; simpa [triB] using this, HX.out, HB.out⟩
      case round =>
        obtain ⟨wb, rfl⟩ : ∃ x, x = wr := ⟨_, rfl⟩
        obtain ⟨b, hb2, rfl, ho, hx, hb⟩ := hrel
        have HO := Lib.hid ho
        have HX := Lib.hid hx
        have HB := Lib.hid hb
        have yb0 := hx.1
        clear ho hx hb ya0
        by_cases hltb : b < n
        · have HSB := Lib.hid (triB_succ xs n a b)
          go_wp2
          go_loopw [3, 20] (fun v i wr => ∃ c : Nat, c ≤ n ∧ i = .int .i64 c ∧ OwnRows wr (w.heap.size + 1) v (triA xs n a ++ triB xs n a b ++ triC xs a b c) ∧ TBox wr w.heap.size n (.slice A xs.length cA) ∧ Below w.heap.size w wr) (fun _ i _ => n - (intOf i).toNat)
          case atStart => exact ⟨0, by omega, rfl, by have := HO.out; simpa [triC] using this, HX.out, HB.out⟩
          case round =>
            obtain ⟨c, hc2, rfl, ho, hx, hb⟩ := hrel
            by_cases hltc : c < n
            · have HSC := Lib.hid (triC_succ xs a b c)
              have l1 := triA_len xs n a
              have l2 := triB_len xs n a b
              have l3 := triC_len xs a b c
              have l4 := nmul_le h8 (show a ≤ n by omega)
              have l5 : n * b ≤ 8 * 8 := Nat.mul_le_mul h8 (by omega)
              have hlen : (triA xs n a ++ triB xs n a b ++ triC xs a b c).length ≤ 1048576 := by rw [List.length_append, List.length_append]; omega
              clear l1 l2 l3 l4 l5 yb0
              have hsz : w.heap.size + 1 ≤ wr.heap.size := World.block_lt_of_cell? _ _ hx.1
              have hr := own_row3 wr (w.heap.size + 1) a b c hsz
              have ba := below_alloc1 wr (.cells #[.int .i64 a, .int .i64 b, .int .i64 c] 3)
              have hXa := hx.below ba
              have yw0 := hXa.1
              have yw1 := hXa.2
              have HOr := Lib.hid (ho.below ba)
              have HXr := Lib.hid hXa
              have HBr := Lib.hid (Below.then hb ba)
              have HRr := Lib.hid hr
              clear ho hx hb hr ba hXa
              go_wp2_with fail
              refine (isTri_any n (.slice A xs.length cA) _ xs a b c _ (HR.out.below HBr.out) HL.out h1 h8 HRr.out.rd hlta hltb hltc).mono ?_
              rintro e w5 ⟨rfl, hb5⟩
              have HO5 := Lib.hid (HOr.out.below hb5)
              have HX5 := Lib.hid (HXr.out.below hb5)
              have HB5 := Lib.hid (Below.then HBr.out hb5)
              have HR5 := Lib.hid (HRr.out.below hb5)
              have hsz5 : w.heap.size + 1 ≤ w5.heap.size := World.block_lt_of_cell? _ _ HX5.out.1
              clear hb5 yw0 yw1
              generalize hX : triA xs n a ++ triB xs n a b ++ triC xs a b c = X at *
              have HXX := Lib.hid hX
              clear hX
              rcases q : triP xs a b c with _ | _
              · go_wp2
                go_roundw
                case rel => exact ⟨c + 1, by omega, by go_num, by rw [HSC.out, q, ← List.append_assoc, HXX.out]; simpa using HO5.out, HX5.out, HB5.out⟩
                case measure => simp [intOf]; omega
              · go_wp2_with (at_builtin; refine wp_append1V w5 rfl (.tmp 30) (.tmp 32) rfl (w.heap.size + 1) _ _ _ _ rfl HO5.out HR5.out (by simp [Act.eval]) hlen (by exact hsz5) ?_; intro v' w7 ho7 hg7; have HO7 := Lib.hid ho7; have HX7 := Lib.hid (HX5.out.kept hg7 (nb_ne (own_ne (fun k hk => (HO5.out.lt k hk).1) (Nat.lt_succ_self _)))); have HB7 := Lib.hid (below_appendV HB5.out hg7 HO5.out (Nat.le_succ _) hsz5); clear ho7 hg7)
                go_roundw
                case rel => exact ⟨c + 1, by omega, by go_num, by rw [HSC.out, q, ← List.append_assoc, HXX.out]; exact HO7.out, HX7.out, HB7.out⟩
                case measure => simp [intOf]; omega
            · obtain rfl : n = c := by omega
              have HO2 := Lib.hid ho
              have HX2 := Lib.hid hx
              have HB2 := Lib.hid hb
              clear ho hx hb yb0
              go_wp2
              go_roundw
              case rel => exact ⟨b + 1, by omega, by go_num, by rw [HSB.out, ← List.append_assoc]; exact HO2.out, HX2.out, HB2.out⟩
              case measure => simp [intOf]; omega
        · obtain rfl : n = b := by omega
          clear yb0
          go_wp2
          go_roundw
          case rel => exact ⟨a + 1, by omega, by go_num, by rw [HSA.out]; exact HO.out, HX.out, HB.out⟩
          case measure => simp [intOf]; omega
    · obtain rfl : n = a := by omega
      clear ya0
      go_wp2
      go_ret
      exact ⟨_, rfl, by rw [HL.out]; exact HO.out.mono (Nat.le_succ _), HB.out⟩
end Go.Proofs.Ytoblhnfnjagajaa
