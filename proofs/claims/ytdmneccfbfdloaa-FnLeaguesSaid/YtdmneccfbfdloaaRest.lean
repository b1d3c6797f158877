/- FnExactRestOf: the functions. -/
import Derived.Test.YtdmneccfbfdloaaMet
import Derived.Test.YtdmneccfbfdloaaRowsL
import Derived.Test.YtdmneccfbfdloaaTourLw
namespace Go.Proofs.Ytdmneccfbfdloaa
open Go.RowKit Go.Sort
set_option maxRecDepth 100000
def rIn (rs : List R4) (e : Int) (a : Nat) : Nat → Nat → List (List Int) → Option (List (List Int))
  | 0, _, acc => some acc
  | m + 1, b, acc => if e - (metN rs a b : Int) < 0 then none else rIn rs e a m (b + 1) (if 0 < e - (metN rs a b : Int) then acc ++ [[(a : Int), (b : Int), e - (metN rs a b : Int)]] else acc)
def rOut (rs : List R4) (e : Int) (n : Nat) : Nat → Nat → List (List Int) → Option (List (List Int))
  | 0, _, acc => some acc
  | m + 1, a, acc => (rIn rs e a (n - (a + 1)) (a + 1) acc).bind (rOut rs e n m (a + 1))
noncomputable def restL (s : Int) (rs : List R4) (e : Int) : List (List Int) := if (leagueB s rs && inB e 0 4) = true then (rOut rs e s.toNat s.toNat 0 []).getD [] else []
theorem rIn_bd (rs : List R4) (e : Int) (a : Nat) : ∀ m b acc L, rIn rs e a m b acc = some L → L.length ≤ acc.length + m ∧ ((∀ r ∈ acc, r.length ≤ 3) → ∀ r ∈ L, r.length ≤ 3) := by
  intro m
  induction m with
  | zero => intro b acc L h; simp only [rIn, Option.some.injEq] at h; subst h; exact ⟨by omega, fun h => h⟩
  | succ m ih =>
    intro b acc L h
    rw [rIn] at h
    split at h
    · cases h
    · obtain ⟨h1, h2⟩ := ih _ _ _ h
      split at h1
      · rename_i hc
        rw [if_pos hc] at h2
        refine ⟨by simp at h1; omega, fun ha => h2 fun r hr => ?_⟩
        rw [List.mem_append, List.mem_singleton] at hr
        rcases hr with hr | rfl
        · exact ha r hr
        · simp
      · rename_i hc
        rw [if_neg hc] at h2
        exact ⟨by omega, h2⟩
theorem rOut_bd (rs : List R4) (e : Int) (n : Nat) : ∀ m a acc L, rOut rs e n m a acc = some L → L.length ≤ acc.length + m * n ∧ ((∀ r ∈ acc, r.length ≤ 3) → ∀ r ∈ L, r.length ≤ 3) := by
  intro m
  induction m with
  | zero => intro a acc L h; simp only [rOut, Option.some.injEq] at h; subst h; exact ⟨by omega, fun h => h⟩
  | succ m ih =>
    intro a acc L h
    rw [rOut] at h
    rcases q : rIn rs e a (n - (a + 1)) (a + 1) acc with _ | L1
    · rw [q] at h; cases h
    · rw [q] at h
      obtain ⟨h1, h2⟩ := ih _ _ _ h
      obtain ⟨h3, h4⟩ := rIn_bd _ _ _ _ _ _ _ q
      refine ⟨?_, fun ha => h2 (h4 ha)⟩
      rw [Nat.succ_mul]; omega
theorem restL_bd (s : Int) (rs : List R4) (e : Int) : (restL s rs e).length ≤ 64 ∧ ∀ r ∈ restL s rs e, r.length ≤ 3 := by
  unfold restL
  split
  · rename_i h
    rw [Bool.and_eq_true] at h
    have hs := (leagueB_true.1 h.1).1
    rcases q : rOut rs e s.toNat s.toNat 0 [] with _ | L
    · simp
    · obtain ⟨h1, h2⟩ := rOut_bd _ _ _ _ _ _ _ q
      have h3 : s.toNat * s.toNat ≤ 8 * 8 := Nat.mul_le_mul (by omega) (by omega)
      exact ⟨by simp at h1; simpa using Nat.le_trans h1 h3, by simpa using h2⟩
  · simp
theorem restL_no {s : Int} {rs : List R4} {e : Int} (h : (leagueB s rs && inB e 0 4) = false) : restL s rs e = [] := by simp [restL, h]
set_option maxHeartbeats 2000000 in
theorem implRest (s : Int) (sl : Value) (rs : List R4) (e : Int) (w : World) (h : RdR w sl rs) :
    Calls Try.prog 32 #[.agg #[.int .i64 s, sl], .int .i64 e] w fun x w' => ∃ v, x = .returned v ∧ OwnRows w' w.heap.size v (restL s rs e) ∧ Below w.heap.size w w' := by
  have HR := Lib.hid h
  obtain ⟨A, c, rfl, -, -, -⟩ := h
  rcases q0 : leagueB s rs with _ | _
  case false =>
    go_enter Try.func32, Try.ntmps32
    go_wp2_with fail
    have b0 := below_alloc1 w (.cells #[.int .i64 s, .slice A rs.length c] 36)
    have x0 := TBox.new w s (.slice A rs.length c) 36
    generalize w.alloc (.cells #[.int .i64 s, .slice A rs.length c] 36) = w0 at *
    have HX0 := Lib.hid x0
    have HB0 := Lib.hid b0
    clear x0 b0
    have y0_0 := HX0.out.1
    have y1_0 := HX0.out.2
    go_wp2_with fail
    refine (implLeagueOk s _ rs _ (HR.out.below HB0.out)).mono ?_
    rintro e w1 ⟨rfl, hb⟩
    have HX1 := Lib.hid (HX0.out.below hb)
    have HB1 := Lib.hid (Below.then HB0.out hb)
    clear hb HX0 HB0 y0_0 y1_0
    have y0_1 := HX1.out.1
    have y1_1 := HX1.out.2
    rw [q0]
    go_wp2
    have hno : (leagueB s rs && inB e 0 4) = false := by first | (simp [q0]; done) | (simp [q1]; done)
    rw [restL_no hno]
    go_ret
    exact ⟨_, rfl, OwnRows.nil_ _ _, HB1.out⟩
  have hs := (leagueB_true.1 q0).1
  have h60 := (leagueB_true.1 q0).2.1
  rcases q1 : inB e 0 4 with _ | _
  case false =>
    go_enter Try.func32, Try.ntmps32
    go_wp2_with fail
    have b0 := below_alloc1 w (.cells #[.int .i64 s, .slice A rs.length c] 36)
    have x0 := TBox.new w s (.slice A rs.length c) 36
    generalize w.alloc (.cells #[.int .i64 s, .slice A rs.length c] 36) = w0 at *
    have HX0 := Lib.hid x0
    have HB0 := Lib.hid b0
    clear x0 b0
    have y0_0 := HX0.out.1
    have y1_0 := HX0.out.2
    go_wp2_with fail
    refine (implLeagueOk s _ rs _ (HR.out.below HB0.out)).mono ?_
    rintro e w1 ⟨rfl, hb⟩
    have HX1 := Lib.hid (HX0.out.below hb)
    have HB1 := Lib.hid (Below.then HB0.out hb)
    clear hb HX0 HB0 y0_0 y1_0
    have y0_1 := HX1.out.1
    have y1_1 := HX1.out.2
    rw [q0]
    go_wp2_with fail
    refine (within_any _ _ _ _).mono ?_
    rintro e wz ⟨rfl, rfl⟩
    rw [q1]
    go_wp2
    have hno : (leagueB s rs && inB e 0 4) = false := by first | (simp [q0]; done) | (simp [q1]; done)
    rw [restL_no hno]
    go_ret
    exact ⟨_, rfl, OwnRows.nil_ _ _, HB1.out⟩
  have he := inB_true.1 q1
  go_enter Try.func32, Try.ntmps32
  go_wp2_with fail
  have b0 := below_alloc1 w (.cells #[.int .i64 s, .slice A rs.length c] 36)
  have x0 := TBox.new w s (.slice A rs.length c) 36
  generalize w.alloc (.cells #[.int .i64 s, .slice A rs.length c] 36) = w0 at *
  have HX0 := Lib.hid x0
  have HB0 := Lib.hid b0
  clear x0 b0
  have y0_0 := HX0.out.1
  have y1_0 := HX0.out.2
  go_wp2_with fail
  refine (implLeagueOk s _ rs _ (HR.out.below HB0.out)).mono ?_
  rintro e w1 ⟨rfl, hb⟩
  have HX1 := Lib.hid (HX0.out.below hb)
  have HB1 := Lib.hid (Below.then HB0.out hb)
  clear hb HX0 HB0 y0_0 y1_0
  have y0_1 := HX1.out.1
  have y1_1 := HX1.out.2
  rw [q0]
  go_wp2_with fail
  refine (within_any _ _ _ _).mono ?_
  rintro e wz ⟨rfl, rfl⟩
  rw [q1]
  have HE : Hid (restL s rs e = (rOut rs e s.toNat s.toNat 0 []).getD []) := by unfold Hid restL; rw [q0, q1]; rfl
  have hyes := q0
  obtain ⟨n, rfl⟩ := Int.eq_ofNat_of_zero_le (show 0 ≤ s by omega)
  have HM := Lib.hid (fun a b => show metN rs a b ≤ rs.length from List.length_filter_le _ _)
  generalize hm : rs.length = m at *
  rw [Int.toNat_natCast] at HE
  clear hm hyes q0 q1
  go_wp2
  go_loopw [5, 19] (fun v i wr => ∃ (a : Nat) (acc : List (List Int)), a ≤ n ∧ i = .int .i64 a ∧ Hid (rOut rs e n (n - a) a acc = rOut rs e n n 0 []) ∧ acc.length ≤ 8 * a ∧ OwnRows wr (w.heap.size + 1) v acc ∧ Below w.heap.size w wr ∧ TBox wr w.heap.size n (.slice A m c)) (fun _ i _ => n - (intOf i).toNat)
  case atStart => exact ⟨0, [], by omega, rfl, rfl, by simp, OwnRows.nil_ _ _, HB1.out, HX1.out⟩
  case round =>
    obtain ⟨wo, rfl⟩ : ∃ x, x = wr := ⟨_, rfl⟩
    obtain ⟨a, acc, ha, rfl, HO, hal, hown, hb, hx⟩ := hrel
    have HOWN := Lib.hid hown
    have HB := Lib.hid hb
    have y0 := hx.1
    have HX := Lib.hid hx
    clear hown hb hx HB1 HX1 y0_1 y1_1
    by_cases hlt : a < n
    · have HOn := HO.out
      rw [show n - a = (n - (a + 1)) + 1 by omega, rOut] at HOn
      have HON := Lib.hid HOn
      clear HOn HO
      go_wp2
      go_loopw [5, 7] (fun v j wr => ∃ (b : Nat) (L : List (List Int)), b ≤ n ∧ a < b ∧ j = .int .i64 b ∧ Hid (rIn rs e a (n - b) b L = rIn rs e a (n - (a + 1)) (a + 1) acc) ∧ L.length ≤ 8 * a + b ∧ OwnRows wr (w.heap.size + 1) v L ∧ Below w.heap.size w wr ∧ TBox wr w.heap.size n (.slice A m c)) (fun _ j _ => n - (intOf j).toNat)
      case atStart => exact ⟨a + 1, acc, by omega, by omega, by go_num, rfl, by omega, HOWN.out, HB.out, HX.out⟩
      case round =>
        obtain ⟨wi, rfl⟩ : ∃ x, x = wr := ⟨_, rfl⟩
        obtain ⟨b, L, hbn, hab, rfl, HI, hLl, hown, hb, hx⟩ := hrel
        obtain ⟨V, cv, rfl, -, -, -⟩ := hown.form
        have HOWN2 := Lib.hid hown
        have HB2 := Lib.hid hb
        have y0' := hx.1
        have y1' := hx.2
        have HX2 := Lib.hid hx
        clear hown hb hx HOWN HB HX y0
        by_cases hlt2 : b < n
        · have HIn := HI.out
          rw [show n - b = (n - (b + 1)) + 1 by omega, rIn] at HIn
          have hmet := HM.out a b
          have HIN := Lib.hid HIn
          clear HIn HI
          go_wp2_with fail
          refine (meetings_any n _ rs a b _ (HR.out.below HB2.out)).mono ?_
          rintro x w3 ⟨rfl, hb3⟩
          generalize hk : metN rs a b = K at *
          have HB3 := Lib.hid (Below.then HB2.out hb3)
          have HX3 := Lib.hid (HX2.out.below hb3)
          have HOWN3 := Lib.hid (HOWN2.out.below hb3)
          have y0' := HX3.out.1
          clear hb3 HB2 HX2 HOWN2 y1' hk
          rcases Int.lt_trichotomy (e - (K : Int)) 0 with hk | hk | hk
          · have HZ : Hid (rIn rs e a (n - (a + 1)) (a + 1) acc = none) := by rw [← HIN.out, if_pos hk]; rfl
            go_wp2
            go_ret
            refine ⟨_, rfl, ?_, HB3.out⟩
            rw [HE.out, ← HON.out, HZ.out]
            exact OwnRows.nil_ _ _
          · have HZ : Hid (rIn rs e a (n - (b + 1)) (b + 1) L = rIn rs e a (n - (a + 1)) (a + 1) acc) := by rw [← HIN.out, if_neg (by omega), if_neg (by omega)]; rfl
            go_wp2
            go_roundw
            case rel => exact ⟨b + 1, L, by omega, by omega, by go_num, HZ, by omega, HOWN3.out, HB3.out, HX3.out⟩
            case measure => simp [intOf]; omega
          · have HZ : Hid (rIn rs e a (n - (b + 1)) (b + 1) (L ++ [[(a : Int), (b : Int), e - (K : Int)]]) = rIn rs e a (n - (a + 1)) (a + 1) acc) := by rw [← HIN.out, if_neg (by omega), if_pos hk]; rfl
            have hsz3 := HB3.out.size
            have HU := Lib.hid (Own.lit w3 w3.heap.size [(a : Int), (b : Int), e - (K : Int)] (Nat.le_refl _) (by simp))
            have hg3 := World.block_lt_of_cell? w3 _ HX3.out.1
            have HX4 := Lib.hid (HX3.out.below (below_alloc1 w3 (.cells #[.int .i64 a, .int .i64 b, .int .i64 (e - (K : Int))] 3)))
            have HB4 := Lib.hid (HB3.out.alloc hsz3 (.cells #[.int .i64 a, .int .i64 b, .int .i64 (e - (K : Int))] 3))
            have HO4 := Lib.hid (HOWN3.out.below (below_alloc1 w3 (.cells #[.int .i64 a, .int .i64 b, .int .i64 (e - (K : Int))] 3)))
            go_wp2_with (at_builtin; refine wp_append1V (w3.alloc (.cells #[.int .i64 a, .int .i64 b, .int .i64 (e - (K : Int))] 3)) rfl (.tmp 40) (.tmp 45) rfl (w.heap.size + 1) _ L _ [(a : Int), (b : Int), e - (K : Int)] w3 rfl HOWN3.out (below_alloc1 _ _) HU.out (by exact hg3) (by simp [Act.eval]) (by omega) ?_; intro v' w5 hown5 hg5; have HB5 := Lib.hid (HB4.out.grown hg5 (by simp; omega) (fun k hk => Nat.le_of_succ_le (HO4.out.lt k hk).1)); have HX5 := Lib.hid (HX4.out.kept hg5 (fun h => Nat.lt_irrefl _ (HO4.out.lt _ h.symm).1)); have HOWN5 := Lib.hid hown5; clear hown5 hg5)
            go_roundw
            case rel => exact ⟨b + 1, _, by omega, by omega, by go_num, HZ, by simp; omega, HOWN5.out, HB5.out, HX5.out⟩
            case measure => simp [intOf]; omega
        · obtain rfl : n = b := by omega
          have HZ := HI.out
          rw [Nat.sub_self, rIn] at HZ
          have HZ' : Hid (rOut rs e n (n - (a + 1)) (a + 1) L = rOut rs e n n 0 []) := by rw [← HON.out, ← HZ]; rfl
          go_wp2
          go_roundw
          case rel => exact ⟨a + 1, L, by omega, by go_num, HZ', by omega, HOWN2.out, HB2.out, HX2.out⟩
          case measure => simp [intOf]; omega
    · obtain rfl : n = a := by omega
      have hO := HO.out
      rw [Nat.sub_self, rOut] at hO
      go_wp2
      go_ret
      exact ⟨_, rfl, by rw [HE.out, ← hO]; exact HOWN.out.mono (by omega), HB.out⟩
end Go.Proofs.Ytdmneccfbfdloaa
