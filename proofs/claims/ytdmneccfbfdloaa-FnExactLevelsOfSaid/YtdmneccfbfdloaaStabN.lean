/- slices.SortStableFunc of up to 40 elements. -/
import Derived.Test.YtdmneccfbfdloaaSymD
import Derived.Test.YtdmneccfbfdloaaIdx
namespace Go.Proofs.Ytdmneccfbfdloaa
open Go.RowKit Go.Sort
set_option maxRecDepth 100000
/-- more than 20 and fewer than 40 -/
theorem stabMid (D : Value) (F : FuncId) (caps : Array Value) (n : Nat) (hn1 : 20 < n) (hn2 : n < 40) (w : World) (Q0 Q1 Q2 Q3 : World → Prop) (h0 : Q0 w)
    (I0 : ∀ W, Q0 W → Calls Try.prog 71 #[D, .int .i64 0, .int .i64 20, .func (.func F) #[] caps] W fun e w' => e = .returned (.tuple #[]) ∧ Q1 w')
    (I1 : ∀ W, Q1 W → Calls Try.prog 71 #[D, .int .i64 20, .int .i64 n, .func (.func F) #[] caps] W fun e w' => e = .returned (.tuple #[]) ∧ Q2 w')
    (M : ∀ W, Q2 W → Calls Try.prog 72 #[D, .int .i64 0, .int .i64 20, .int .i64 n, .func (.func F) #[] caps] W fun e w' => e = .returned (.tuple #[]) ∧ Q3 w') :
    Calls Try.prog 57 #[D, .int .i64 n, .func (.func F) #[] caps] w fun e w' => e = .returned (.tuple #[]) ∧ Q3 w' := by
  have H0 := Lib.hid h0
  have HI0 := Lib.hid I0
  have HI1 := Lib.hid I1
  have HM := Lib.hid M
  clear h0 I0 I1 M
  go_enter Try.func57, Try.ntmps57
  go_wp2
  go_loopw [7, 8] (fun a b wr => (a = .int .i64 0 ∧ b = .int .i64 20 ∧ Hid (Q0 wr)) ∨ (a = .int .i64 20 ∧ b = .int .i64 40 ∧ Hid (Q1 wr))) (fun _ b _ => 100 - (intOf b).toNat)
  case atStart => exact .inl ⟨rfl, rfl, H0⟩
  case round =>
    obtain ⟨wo, rfl⟩ : ∃ x, x = wr := ⟨_, rfl⟩
    rcases hrel with ⟨rfl, rfl, HQ⟩ | ⟨rfl, rfl, HQ⟩
    · have d0 : decide ((20 : Int) ≤ (n : Int)) = true := by simp; omega
      go_wp2_with fail
      refine (HI0.out _ HQ.out).mono ?_
      rintro e w1 ⟨rfl, hq⟩
      have HQ1 := Lib.hid hq
      clear hq
      go_wp2
      go_roundw
      case rel => exact .inr ⟨by go_num, by go_num, HQ1⟩
      case measure => simp [intOf]
    · have d0 : decide ((40 : Int) ≤ (n : Int)) = false := by simp; omega
      go_wp2_with fail
      refine (HI1.out _ HQ.out).mono ?_
      rintro e w1 ⟨rfl, hq⟩
      have HQ1 := Lib.hid hq
      clear hq
      go_wp2
      go_loopw [6] (fun i wr => (i = .int .i64 20 ∧ Hid (Q2 wr)) ∨ (i = .int .i64 40 ∧ Hid (Q3 wr))) (fun i _ => 100 - (intOf i).toNat)
      case atStart => exact .inl ⟨rfl, HQ1⟩
      case round =>
        obtain ⟨wi, rfl⟩ : ∃ x, x = wr := ⟨_, rfl⟩
        rcases hrel with ⟨rfl, HR⟩ | ⟨rfl, HR⟩
        · have d1 : decide ((20 : Int) < (n : Int)) = true := by simp; omega
          go_wp2
          go_loopw [7, 8] (fun a b wr => a = .int .i64 0 ∧ b = .int .i64 40 ∧ Hid (Q2 wr)) (fun _ _ _ => 0)
          case atStart => exact ⟨rfl, by go_num, HR⟩
          case round =>
            obtain ⟨rfl, rfl, HR2⟩ := hrel
            go_wp2_with fail
            refine (HM.out _ HR2.out).mono ?_
            rintro e w3 ⟨rfl, hq⟩
            have HQ3 := Lib.hid hq
            clear hq
            go_wp2
            go_roundw
            case rel => exact .inr ⟨by go_num, HQ3⟩
            case measure => simp [intOf]
        · have d1 : decide ((40 : Int) < (n : Int)) = false := by simp; omega
          go_wp2
          go_end0
          exact ⟨rfl, HR.out⟩
/-- 20 -/
theorem stab20 (D : Value) (F : FuncId) (caps : Array Value) (w : World) (Q0 Q1 Q2 : World → Prop) (h0 : Q0 w)
    (I0 : ∀ W, Q0 W → Calls Try.prog 71 #[D, .int .i64 0, .int .i64 20, .func (.func F) #[] caps] W fun e w' => e = .returned (.tuple #[]) ∧ Q1 w')
    (I1 : ∀ W, Q1 W → Calls Try.prog 71 #[D, .int .i64 20, .int .i64 20, .func (.func F) #[] caps] W fun e w' => e = .returned (.tuple #[]) ∧ Q2 w') :
    Calls Try.prog 57 #[D, .int .i64 20, .func (.func F) #[] caps] w fun e w' => e = .returned (.tuple #[]) ∧ Q2 w' := by
  have H0 := Lib.hid h0
  have HI0 := Lib.hid I0
  have HI1 := Lib.hid I1
  clear h0 I0 I1
  go_enter Try.func57, Try.ntmps57
  go_wp2
  go_loopw [7, 8] (fun a b wr => (a = .int .i64 0 ∧ b = .int .i64 20 ∧ Hid (Q0 wr)) ∨ (a = .int .i64 20 ∧ b = .int .i64 40 ∧ Hid (Q1 wr))) (fun _ b _ => 100 - (intOf b).toNat)
  case atStart => exact .inl ⟨rfl, rfl, H0⟩
  case round =>
    obtain ⟨wo, rfl⟩ : ∃ x, x = wr := ⟨_, rfl⟩
    rcases hrel with ⟨rfl, rfl, HQ⟩ | ⟨rfl, rfl, HQ⟩
    · go_wp2_with fail
      refine (HI0.out _ HQ.out).mono ?_
      rintro e w1 ⟨rfl, hq⟩
      have HQ1 := Lib.hid hq
      clear hq
      go_wp2
      go_roundw
      case rel => exact .inr ⟨by go_num, by go_num, HQ1⟩
      case measure => simp [intOf]
    · go_wp2_with fail
      refine (HI1.out _ HQ.out).mono ?_
      rintro e w1 ⟨rfl, hq⟩
      have HQ1 := Lib.hid hq
      clear hq
      go_wp2
      go_loopw [6] (fun i wr => i = .int .i64 20 ∧ Hid (Q2 wr)) (fun i _ => 0)
      case atStart => exact ⟨rfl, HQ1⟩
      case round =>
        obtain ⟨rfl, HR⟩ := hrel
        go_wp2
        go_end0
        exact ⟨rfl, HR.out⟩
/-- 40 -/
theorem stab40 (D : Value) (F : FuncId) (caps : Array Value) (w : World) (Q0 Q1 Q2 Q3 : World → Prop) (h0 : Q0 w)
    (I0 : ∀ W, Q0 W → Calls Try.prog 71 #[D, .int .i64 0, .int .i64 20, .func (.func F) #[] caps] W fun e w' => e = .returned (.tuple #[]) ∧ Q1 w')
    (I1 : ∀ W, Q1 W → Calls Try.prog 71 #[D, .int .i64 20, .int .i64 40, .func (.func F) #[] caps] W fun e w' => e = .returned (.tuple #[]) ∧ Q2 w')
    (I2 : ∀ W, Q2 W → Calls Try.prog 71 #[D, .int .i64 40, .int .i64 40, .func (.func F) #[] caps] W fun e w' => e = .returned (.tuple #[]) ∧ Q2 w')
    (M : ∀ W, Q2 W → Calls Try.prog 72 #[D, .int .i64 0, .int .i64 20, .int .i64 40, .func (.func F) #[] caps] W fun e w' => e = .returned (.tuple #[]) ∧ Q3 w') :
    Calls Try.prog 57 #[D, .int .i64 40, .func (.func F) #[] caps] w fun e w' => e = .returned (.tuple #[]) ∧ Q3 w' := by
  have H0 := Lib.hid h0
  have HI0 := Lib.hid I0
  have HI1 := Lib.hid I1
  have HI2 := Lib.hid I2
  have HM := Lib.hid M
  clear h0 I0 I1 I2 M
  go_enter Try.func57, Try.ntmps57
  go_wp2
  go_loopw [7, 8] (fun a b wr => (a = .int .i64 0 ∧ b = .int .i64 20 ∧ Hid (Q0 wr)) ∨ (a = .int .i64 20 ∧ b = .int .i64 40 ∧ Hid (Q1 wr)) ∨ (a = .int .i64 40 ∧ b = .int .i64 60 ∧ Hid (Q2 wr))) (fun _ b _ => 100 - (intOf b).toNat)
  case atStart => exact .inl ⟨rfl, rfl, H0⟩
  case round =>
    obtain ⟨wo, rfl⟩ : ∃ x, x = wr := ⟨_, rfl⟩
    rcases hrel with ⟨rfl, rfl, HQ⟩ | ⟨rfl, rfl, HQ⟩ | ⟨rfl, rfl, HQ⟩
    · go_wp2_with fail
      refine (HI0.out _ HQ.out).mono ?_
      rintro e w1 ⟨rfl, hq⟩
      have HQ1 := Lib.hid hq
      clear hq
      go_wp2
      go_roundw
      case rel => exact .inr (.inl ⟨by go_num, by go_num, HQ1⟩)
      case measure => simp [intOf]
    · go_wp2_with fail
      refine (HI1.out _ HQ.out).mono ?_
      rintro e w1 ⟨rfl, hq⟩
      have HQ1 := Lib.hid hq
      clear hq
      go_wp2
      go_roundw
      case rel => exact .inr (.inr ⟨by go_num, by go_num, HQ1⟩)
      case measure => simp [intOf]
    · go_wp2_with fail
      refine (HI2.out _ HQ.out).mono ?_
      rintro e w1 ⟨rfl, hq⟩
      have HQ1 := Lib.hid hq
      clear hq
      go_wp2
      go_loopw [6] (fun i wr => (i = .int .i64 20 ∧ Hid (Q2 wr)) ∨ (i = .int .i64 40 ∧ Hid (Q3 wr))) (fun i _ => 100 - (intOf i).toNat)
      case atStart => exact .inl ⟨rfl, HQ1⟩
      case round =>
        obtain ⟨wi, rfl⟩ : ∃ x, x = wr := ⟨_, rfl⟩
        rcases hrel with ⟨rfl, HR⟩ | ⟨rfl, HR⟩
        · go_wp2
          go_loopw [7, 8] (fun a b wr => (a = .int .i64 0 ∧ b = .int .i64 40 ∧ Hid (Q2 wr)) ∨ (a = .int .i64 40 ∧ b = .int .i64 80 ∧ Hid (Q3 wr))) (fun _ b _ => 100 - (intOf b).toNat)
          case atStart => exact .inl ⟨rfl, by go_num, HR⟩
          case round =>
            obtain ⟨wj, rfl⟩ : ∃ x, x = wr := ⟨_, rfl⟩
            rcases hrel with ⟨rfl, rfl, HR2⟩ | ⟨rfl, rfl, HR2⟩
            · go_wp2_with fail
              refine (HM.out _ HR2.out).mono ?_
              rintro e w3 ⟨rfl, hq⟩
              have HQ3 := Lib.hid hq
              clear hq
              go_wp2
              go_roundw
              case rel => exact .inr ⟨by go_num, by go_num, HQ3⟩
              case measure => simp [intOf]
            · go_wp2
              go_roundw
              case rel => exact .inr ⟨by go_num, HR2⟩
              case measure => simp [intOf]
        · go_wp2
          go_end0
          exact ⟨rfl, HR.out⟩
/-- none -/
theorem stab0 (D : Value) (F : FuncId) (caps : Array Value) (w : World) (Q0 Q1 : World → Prop) (h0 : Q0 w)
    (I0 : ∀ W, Q0 W → Calls Try.prog 71 #[D, .int .i64 0, .int .i64 0, .func (.func F) #[] caps] W fun e w' => e = .returned (.tuple #[]) ∧ Q1 w') :
    Calls Try.prog 57 #[D, .int .i64 0, .func (.func F) #[] caps] w fun e w' => e = .returned (.tuple #[]) ∧ Q1 w' := by
  have H0 := Lib.hid h0
  have HI0 := Lib.hid I0
  clear h0 I0
  go_enter Try.func57, Try.ntmps57
  go_wp2
  go_loopw [7, 8] (fun a b wr => a = .int .i64 0 ∧ b = .int .i64 20 ∧ Hid (Q0 wr)) (fun _ _ _ => 0)
  case atStart => exact ⟨rfl, rfl, H0⟩
  case round =>
    obtain ⟨rfl, rfl, HQ⟩ := hrel
    go_wp2_with fail
    refine (HI0.out _ HQ.out).mono ?_
    rintro e w1 ⟨rfl, hq⟩
    have HQ1 := Lib.hid hq
    clear hq
    go_wp2
    go_loopw [6] (fun i wr => i = .int .i64 20 ∧ Hid (Q1 wr)) (fun i _ => 0)
    case atStart => exact ⟨rfl, HQ1⟩
    case round =>
      obtain ⟨rfl, HR⟩ := hrel
      go_wp2
      go_end0
      exact ⟨rfl, HR.out⟩
/-- slices.SortStableFunc of a row of at most 40 elements that rise: sorted by the key -/
theorem sort40_any (F : FuncId) (caps : Array Value) (hE : Enters F) (cf : Int → Int → Int) (K : Int → Int) (L : List Int) (n base g c : Nat) (w : World) (hl : L.length = n) (hn : n ≤ 40) (hL : L.Pairwise (· < ·)) (hc : c ≤ 4611686018427387904) (hnc : n ≤ c) (hbase : base ≤ w.heap.size)
    (h : Own w base (.slice (some ⟨g, 0, none⟩) n c) L)
    (hK : ∀ x ∈ L, ∀ y ∈ L, (cf x y < 0 ↔ K x < K y))
    (hf : ∀ x ∈ L, ∀ y ∈ L, ∀ w', Below base w w' → Calls Try.prog F (#[.int .i64 x, .int .i64 y] ++ caps) w' fun e w'' => e = .returned (.int .i64 (cf x y)) ∧ Below w'.heap.size w' w'') :
    Calls Try.prog 57 #[.slice (some ⟨g, 0, none⟩) n c, .int .i64 n, .func (.func F) #[] caps] w fun e w' => e = .returned (.tuple #[]) ∧ ∃ M, M.Perm L ∧ M.Pairwise (LtK K) ∧ Own w' base (.slice (some ⟨g, 0, none⟩) n c) M ∧ Below base w w' := by
  have hb : ∀ M : List Int, (∀ x ∈ M, x ∈ L) → M.Pairwise (· < ·) → (sortR (fun x y => decide (cf x y < 0)) M).Pairwise (LtK K) ∧ (sortR (fun x y => decide (cf x y < 0)) M).Perm M := fun M hM hp => sortR_sorted M (fun x hx y hy => by rw [decide_eq_decide]; exact hK x (hM x hx) y (hM y hy)) hp
  have hfb : ∀ W, Below base w W → ∀ x ∈ L, ∀ y ∈ L, ∀ w', Below base W w' → Calls Try.prog F (#[.int .i64 x, .int .i64 y] ++ caps) w' fun e w'' => e = .returned (.int .i64 (cf x y)) ∧ Below w'.heap.size w' w'' := fun W hW x hx y hy w' hw' => hf x hx y hy w' (hW.trans hw')
  rcases Nat.eq_zero_or_pos n with h0 | h0
  · subst h0
    refine (stab0 (.slice (some ⟨g, 0, none⟩) 0 c) F caps w (fun W => W = w) (fun W => W = w) rfl (fun W hW => ?_)).mono ?_
    · subst hW
      exact insSortE_any (.func (.func F) #[] caps) 0 0 0 g c W (by omega) (by omega)
    · rintro e w' ⟨rfl, rfl⟩
      have : L = [] := List.eq_nil_of_length_eq_zero hl
      subst this
      exact ⟨rfl, [], .refl _, .nil, h, (Below.refl _ _).mono hbase⟩
  rcases Nat.lt_or_ge n 20 with h1 | h1
  · refine (stable_any F caps hE cf L n base g c w hl h1 hc hnc h0 hbase h hf).mono ?_
    rintro e w' ⟨rfl, ho, hbl⟩
    obtain ⟨p1, p2⟩ := hb L (fun x hx => hx) hL
    exact ⟨rfl, _, p2, p1, ho, hbl⟩
  · obtain ⟨X, hX⟩ : ∃ X, X = L.take 20 := ⟨_, rfl⟩
    obtain ⟨Y, hY⟩ : ∃ Y, Y = L.drop 20 := ⟨_, rfl⟩
    have eL : L = X ++ Y := by rw [hX, hY, List.take_append_drop]
    have lX : X.length = 20 := by rw [hX, List.length_take]; omega
    have lY : 20 + Y.length = n := by rw [hY, List.length_drop]; omega
    have mX : ∀ x ∈ X, x ∈ L := fun x hx => by rw [eL]; exact List.mem_append_left _ hx
    have mY : ∀ x ∈ Y, x ∈ L := fun x hx => by rw [eL]; exact List.mem_append_right _ hx
    rw [eL, List.pairwise_append] at hL
    obtain ⟨x1, x2⟩ := hb X mX hL.1
    obtain ⟨y1, y2⟩ := hb Y mY hL.2.1
    have I0 : ∀ W, (Below base w W ∧ Own W base (.slice (some ⟨g, 0, none⟩) n c) (X ++ Y)) → Calls Try.prog 71 #[.slice (some ⟨g, 0, none⟩) n c, .int .i64 0, .int .i64 20, .func (.func F) #[] caps] W fun e w' => e = .returned (.tuple #[]) ∧ (Below base w w' ∧ Own w' base (.slice (some ⟨g, 0, none⟩) n c) (sortR (fun x y => decide (cf x y < 0)) X ++ Y)) := fun W ⟨hB, hO⟩ => by
      refine (insSortO_any F caps hE cf [] X Y 0 20 n 20 base g c W rfl lX (by omega) (by simp; omega) (by omega) (by omega) (by omega) (by have := hB.size; omega) hO (fun x hx y hy => hfb W hB x (mX x hx) y (mX y hy))).mono ?_
      rintro e w' ⟨rfl, ho, hbl⟩
      exact ⟨rfl, hB.trans hbl, by simpa using ho⟩
    have I1 : ∀ W, (Below base w W ∧ Own W base (.slice (some ⟨g, 0, none⟩) n c) (sortR (fun x y => decide (cf x y < 0)) X ++ Y)) → Calls Try.prog 71 #[.slice (some ⟨g, 0, none⟩) n c, .int .i64 20, .int .i64 n, .func (.func F) #[] caps] W fun e w' => e = .returned (.tuple #[]) ∧ (Below base w w' ∧ Own w' base (.slice (some ⟨g, 0, none⟩) n c) (sortR (fun x y => decide (cf x y < 0)) X ++ sortR (fun x y => decide (cf x y < 0)) Y)) := fun W ⟨hB, hO⟩ => by
      rcases Nat.eq_zero_or_pos Y.length with hy0 | hy0
      · refine (insSortE_any (.func (.func F) #[] caps) 20 n n g c W (by omega) (by omega)).mono ?_
        rintro e w' ⟨rfl, rfl⟩
        have : Y = [] := List.eq_nil_of_length_eq_zero hy0
        subst this
        exact ⟨rfl, hB, hO⟩
      · refine (insSortO_any F caps hE cf (sortR (fun x y => decide (cf x y < 0)) X) Y [] 20 n n Y.length base g c W (by rw [x2.length_eq, lX]) rfl (by omega) (by simp [x2.length_eq]; omega) (by omega) (by omega) (by omega) (by have := hB.size; omega) (by simpa using hO) (fun x hx y hy => hfb W hB x (mY x hx) y (mY y hy))).mono ?_
        rintro e w' ⟨rfl, ho, hbl⟩
        exact ⟨rfl, hB.trans hbl, by simpa using ho⟩
    rcases Nat.eq_or_lt_of_le h1 with h2 | h2
    · subst h2
      refine (stab20 _ F caps w _ _ _ ⟨(Below.refl _ _).mono hbase, eL ▸ h⟩ I0 I1).mono ?_
      rintro e w' ⟨rfl, hB, hO⟩
      have : Y = [] := List.eq_nil_of_length_eq_zero (by omega)
      subst this
      rw [show sortR (fun x y => decide (cf x y < 0)) [] = [] from rfl, List.append_nil] at hO
      exact ⟨rfl, _, by rw [eL, List.append_nil]; exact x2, x1, hO, hB⟩
    · have MM : ∀ W, (Below base w W ∧ Own W base (.slice (some ⟨g, 0, none⟩) n c) (sortR (fun x y => decide (cf x y < 0)) X ++ sortR (fun x y => decide (cf x y < 0)) Y)) → Calls Try.prog 72 #[.slice (some ⟨g, 0, none⟩) n c, .int .i64 0, .int .i64 20, .int .i64 n, .func (.func F) #[] caps] W fun e w' => e = .returned (.tuple #[]) ∧ (Below base w w' ∧ ∃ M, M.Perm L ∧ M.Pairwise (LtK K) ∧ Own w' base (.slice (some ⟨g, 0, none⟩) n c) M) := fun W ⟨hB, hO⟩ => by
        refine (symOk_all F caps hE cf K (· ∈ L) n base g c W (by omega) (by have := hB.size; omega) (fun x y hx hy => hK x hx y hy) (fun x y hx hy w' hw' => hfb W hB x hx y hy w' hw') 40 [] (sortR (fun x y => decide (cf x y < 0)) X) (sortR (fun x y => decide (cf x y < 0)) Y) [] 0 20 n W rfl (by rw [x2.length_eq, lX]) (by rw [y2.length_eq]; exact lY) (by omega) (by omega) (by omega) (by omega) (by simp [x2.length_eq, y2.length_eq]; omega) ((Below.refl _ _).mono (by have := hB.size; omega)) (by simpa using hO) (fun x hx => mX x (x2.mem_iff.1 hx)) (fun y hy => mY y (y2.mem_iff.1 hy)) x1 y1 (fun x hx y hy => hL.2.2 x (x2.mem_iff.1 hx) y (y2.mem_iff.1 hy))).mono ?_
        rintro e w' ⟨rfl, M, hp, hs, ho, hbl⟩
        exact ⟨rfl, hB.trans hbl, M, by rw [eL]; exact hp.trans (x2.append y2), hs, by simpa using ho⟩
      rcases Nat.lt_or_ge n 40 with h3 | h3
      · refine (stabMid _ F caps n h2 h3 w _ _ _ _ ⟨(Below.refl _ _).mono hbase, eL ▸ h⟩ I0 I1 MM).mono ?_
        rintro e w' ⟨rfl, hB, M, hp, hs, ho⟩
        exact ⟨rfl, M, hp, hs, ho, hB⟩
      · obtain rfl : n = 40 := by omega
        refine (stab40 _ F caps w _ _ _ _ ⟨(Below.refl _ _).mono hbase, eL ▸ h⟩ I0 I1 (fun W ⟨hB, hO⟩ => ?_) MM).mono ?_
        · refine (insSortE_any (.func (.func F) #[] caps) 40 40 40 g c W (by omega) (by omega)).mono ?_
          rintro e w' ⟨rfl, rfl⟩
          exact ⟨rfl, hB, hO⟩
        · rintro e w' ⟨rfl, hB, M, hp, hs, ho⟩
          exact ⟨rfl, M, hp, hs, ho, hB⟩
end Go.Proofs.Ytdmneccfbfdloaa
