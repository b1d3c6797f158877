/- Texts put together: Perm, SmT, KgF, SortI, Cond, TrF, Conn. -/
import Derived.Test.YtbkiedhaacapbaaDoorMTours04
import Derived.Test.YtbkiedhaacapbaaDoorMTours09
import Derived.Test.YtbkiedhaacapbaaDoorMTours01
import Derived.Test.YtbkiedhaacapbaaDoorMTours05
import Derived.Test.YtbkiedhaacapbaaDoorMTours03
import Derived.Deep.RegionLaw
import Derived.Deep.DeepCutAuto
namespace Go.Proofs.YtbkiedhaacapbaaDoor
open Go.RowKit Go.Sort
set_option maxRecDepth 100000

def ordAt (ns : List Int) (i : Nat) : Bool := inB (ns.getD i 0) 0 ((ns.length : Int) - 1) && !(containsI (ns.take i) (ns.getD i 0))
noncomputable def permB (n : Nat) (ns : List Int) : Bool := @decide (PermP n ns) (Classical.propDecidable _)
theorem permB_true {n : Nat} {ns : List Int} : permB n ns = true ↔ PermP n ns := by unfold permB; simp
theorem permB_false {n : Nat} {ns : List Int} : permB n ns = false ↔ ¬ PermP n ns := by rw [← permB_true]; simp
theorem getD_take_ {ns : List Int} {i j : Nat} (h : j < i) : (ns.take i).getD j 0 = ns.getD j 0 := by
  simp [List.getD_eq_getElem?_getD, h]
theorem ord_no {ns : List Int} {k : Nat} (hk : k < ns.length) (h : ordAt ns k = false) : permB ns.length ns = false := permB_false.2 fun hp => by
  have h1 := hp.2.1 _ (getD_mem' hk)
  have h2 : inB (ns.getD k 0) 0 ((ns.length : Int) - 1) = true := inB_true.2 (by omega)
  have h3 : containsI (ns.take k) (ns.getD k 0) = false := by
    unfold containsI
    rw [decide_eq_false_iff_not]
    intro hm
    obtain ⟨j, hj, e⟩ := List.mem_iff_getElem.1 hm
    rw [List.length_take] at hj
    rw [List.getElem_take] at e
    rw [show ns.getD k 0 = ns[k] by simp [hk]] at e
    exact List.pairwise_iff_getElem.1 hp.2.2 j k (by omega) hk (by omega) e
  rw [ordAt, h2, h3] at h
  simp at h
theorem ord_yes {ns : List Int} (h : ∀ k, k < ns.length → ordAt ns k = true) : permB ns.length ns = true := permB_true.2 <| by
  have hA : ∀ k, k < ns.length → (0 ≤ ns.getD k 0 ∧ ns.getD k 0 ≤ (ns.length : Int) - 1) ∧ ns.getD k 0 ∉ ns.take k := fun k hk => by
    have := h k hk
    unfold ordAt at this
    rw [Bool.and_eq_true, inB_true] at this
    refine ⟨this.1, ?_⟩
    have := this.2
    unfold containsI at this
    simpa using this
  refine ⟨rfl, fun x hx => ?_, ?_⟩
  · obtain ⟨k, hk, rfl⟩ := List.mem_iff_getElem.1 hx
    have := (hA k hk).1
    rw [show ns.getD k 0 = ns[k] by simp [hk]] at this
    omega
  · rw [List.Nodup, List.pairwise_iff_getElem]
    intro i j hi hj hij e
    refine (hA j hj).2 ?_
    rw [show ns.getD j 0 = ns[j] by simp [hj], ← e]
    rw [List.mem_iff_getElem]
    exact ⟨i, by rw [List.length_take]; omega, by rw [List.getElem_take]⟩
set_option maxHeartbeats 2000000 in
theorem isOrder_any (nv : Value) (ns : List Int) (w : World) (h : Rd w nv ns) (hl : ns.length ≤ 1099511627776) :
    Calls Tryd.prog 55 #[nv] w fun e w' => e = .returned (.bool (permB ns.length ns)) ∧ Below w.heap.size w w' := by
  have HR := Lib.hid h
  obtain ⟨B, d, rfl, hl2, hm2, hc2⟩ := h
  unfold maxLen at hm2
  have HC := Lib.hid hc2
  clear hc2
  have HNO := Lib.hid (fun (k : Nat) (hk : k < ns.length) (hq : ordAt ns k = false) => ord_no hk hq)
  have HYES := Lib.hid (fun (hq : ∀ k, k < ns.length → ordAt ns k = true) => ord_yes hq)
  have HAT : Hid (∀ k, ordAt ns k = (inB (ns.getD k 0) 0 ((ns.length : Int) - 1) && !(containsI (ns.take k) (ns.getD k 0)))) := fun _ => rfl
  generalize hn : ns.length = n at *
  have HN := Lib.hid hn
  clear hn
  go_enter Tryd.func55, Tryd.ntmps55
  go_wp2
  go_loopw [7] (fun i wr => ∃ k : Nat, k ≤ n ∧ i = .int .i64 k ∧ Hid (∀ j, j < k → ordAt ns j = true) ∧ Below w.heap.size w wr) (fun i _ => n - (intOf i).toNat)
  case atStart => exact ⟨0, by omega, rfl, fun _ h => absurd h (by omega), Below.refl _ _⟩
  case round =>
    obtain ⟨k, hk, rfl, HP, hb⟩ := hrel
    have HB := Lib.hid hb
    clear hb
    by_cases hlt : k < n
    · obtain ⟨g, off, rfl, hg, hy⟩ := HC.out (by omega)
      have hyk := (HB.out.cell (p := ⟨g, off + k, none⟩) hg).trans (hy k hlt)
      have HA := Lib.hid (HAT.out k)
      have hT := Lib.hid ((HR.out.below HB.out).take_ k (by rw [HN.out]; omega))
      have HNK := Lib.hid (HNO.out k hlt)
      clear hy
      generalize hz : ns.getD k 0 = y at *
      clear hz
      rcases q1 : inB y 0 ((n : Int) - 1) with _ | _
      · go_wp2_with fail
        refine (within_any _ _ _ _).mono ?_
        rintro e wz ⟨rfl, rfl⟩
        rw [q1]
        go_wp2
        go_ret
        exact ⟨ret_bool (HNK.out (by rw [HA.out, q1]; rfl)).symm, HB.out⟩
      · rcases q2 : containsI (ns.take k) y with _ | _
        · go_wp2_with fail
          refine (within_any _ _ _ _).mono ?_
          rintro e wz ⟨rfl, rfl⟩
          rw [q1]
          go_wp2_with fail
          refine (contains_any _ (ns.take k) y _ hT.out).mono ?_
          rintro e wz ⟨rfl, rfl⟩
          rw [q2]
          go_wp2
          go_roundw
          case rel => exact ⟨k + 1, by omega, by go_num, fun j hj => by
            by_cases hjk : j < k
            · exact HP.out j hjk
            · obtain rfl : j = k := by omega
              rw [HA.out, q1, q2]; rfl, HB.out⟩
          case measure => simp [intOf]; omega
        · go_wp2_with fail
          refine (within_any _ _ _ _).mono ?_
          rintro e wz ⟨rfl, rfl⟩
          rw [q1]
          go_wp2_with fail
          refine (contains_any _ (ns.take k) y _ hT.out).mono ?_
          rintro e wz ⟨rfl, rfl⟩
          rw [q2]
          go_wp2
          go_ret
          exact ⟨ret_bool (HNK.out (by rw [HA.out, q1, q2]; rfl)).symm, HB.out⟩
    · obtain rfl : k = n := by omega
      go_wp2
      go_ret
      exact ⟨ret_bool (HYES.out HP.out).symm, HB.out⟩
set_option maxHeartbeats 1000000 in
theorem equal_any (v1 v2 : Value) (xs ys : List Int) (w : World) (h1 : Rd w v1 xs) (h2 : Rd w v2 ys) :
    Calls Tryd.prog 80 #[v1, v2] w fun e w' => e = .returned (.bool (decide (xs = ys))) ∧ Below w.heap.size w w' := by
  obtain ⟨A, c, rfl, hl1, hm1, hc1⟩ := h1
  obtain ⟨B, d, rfl, hl2, hm2, hc2⟩ := h2
  unfold maxLen at hm1 hm2
  generalize hn : xs.length = n at *
  generalize hm : ys.length = m at *
  have H1 := Lib.hid hn
  have H2 := Lib.hid hm
  have H3 := Lib.hid hc1
  have H4 := Lib.hid hc2
  clear hn hm hc1 hc2
  by_cases hnm : n = m
  · subst hnm
    have hne : ((n : Int) != (n : Int)) = false := by simp
    go_enter Tryd.func80, Tryd.ntmps80
    go_wp2
    go_loopw [13] (fun i wr => ∃ k : Nat, k ≤ n ∧ i = .int .i64 k ∧ Hid (∀ j, j < k → xs.getD j 0 = ys.getD j 0) ∧ Below w.heap.size w wr) (fun i _ => n - (intOf i).toNat)
    case atStart => exact ⟨0, by omega, rfl, fun j hj => absurd hj (by omega), Below.refl _ _⟩
    case round =>
      obtain ⟨k, hk, rfl, HP, hb⟩ := hrel
      have HB := Lib.hid hb
      clear hb
      by_cases hlt : k < n
      · obtain ⟨b, off, rfl, hb, hx⟩ := H3.out (by omega)
        obtain ⟨b', off', rfl, hb', hy⟩ := H4.out (by omega)
        have hxk := cell_regrown ((HB.out.cell (p := ⟨b, off + k, none⟩) hb).trans (hx k hlt))
        have hyk := cell_regrown ((HB.out.cell (p := ⟨b', off' + k, none⟩) hb').trans (hy k hlt))
        clear hx hy
        generalize hx1 : xs.getD k 0 = x at *
        generalize hy1 : ys.getD k 0 = y at *
        have HX1 := Lib.hid hx1
        have HY1 := Lib.hid hy1
        clear hx1 hy1
        rcases q : (x != y) with _ | _
        · go_wp2_with fail
          refine wp_region_below (by kernel_rfl) (by kernel_rfl) ?_
          repeat (go_big_quiet_step (first | (with_reducible fail)))
          refine wpQuiet_nil ?_
          intro wq hbq0
          have HQ := Lib.hid (Below.then HB.out hbq0)
          clear hbq0 hxk hyk
          go_wp2
          go_roundw
          case rel =>
            refine ⟨k + 1, by omega, by go_num, fun j hj => ?_, HQ.out⟩
            by_cases hjk : j < k
            · exact HP.out j hjk
            · obtain rfl : j = k := by omega
              rw [HX1.out, HY1.out]; simpa using q
          case measure => simp [intOf]; omega
        · go_wp2_with fail
          refine wp_region_below (by kernel_rfl) (by kernel_rfl) ?_
          repeat (go_big_quiet_step (first | (with_reducible fail)))
          refine wpQuiet_nil ?_
          intro wq hbq0
          have HQ := Lib.hid (Below.then HB.out hbq0)
          clear hbq0 hxk hyk
          go_wp2
          go_ret
          refine ⟨ret_bool (decide_eq_false ?_).symm, HQ.out⟩
          rintro rfl
          rw [← HX1.out, ← HY1.out] at q
          simp at q
      · obtain rfl : k = n := by omega
        go_wp2
        go_ret
        exact ⟨ret_bool (eqIntS_true xs ys (by rw [H1.out, H2.out]) fun j hj => HP.out j (by have := H1.out; omega)).symm, HB.out⟩
  · have hne : ((n : Int) != (m : Int)) = true := by simp; omega
    go_enter Tryd.func80, Tryd.ntmps80
    go_wp2
    go_ret
    refine ⟨ret_bool (decide_eq_false ?_).symm, Below.refl _ _⟩
    rintro rfl
    exact hnm (H1.out.symm.trans H2.out)
set_option maxHeartbeats 1000000 in
theorem same_any (n : Nat) (v1 v2 : Value) (xs ys : List Int) (w : World) (h1 : Rd w v1 xs) (h2 : Rd w v2 ys) :
    Calls Tryd.prog 41 #[.agg #[.int .i64 n, v1], .agg #[.int .i64 n, v2]] w fun e w' => e = .returned (.bool (decide (xs = ys))) ∧ Below w.heap.size w w' := by
  have H1 := Lib.hid h1
  have H2 := Lib.hid h2
  obtain ⟨A, c, rfl, -, -, -⟩ := h1
  obtain ⟨B, d, rfl, -, -, -⟩ := h2
  have b2 := (below_alloc1 w (.cells #[.int .i64 n, .slice A xs.length c] 25)).alloc (by simp) (.cells #[.int .i64 n, .slice B ys.length d] 25)
  have HB := Lib.hid b2
  clear b2
  have hne : ((n : Int) == (n : Int)) = true := by simp
  go_enter Tryd.func41, Tryd.ntmps41
  go_wp2_with fail
  refine (equal_any _ _ xs ys _ (H1.out.below HB.out) (H2.out.below HB.out)).mono ?_
  rintro e w1 ⟨rfl, hb1⟩
  have HB1 := Lib.hid (Below.then HB.out hb1)
  clear hb1
  go_wp2
  go_ret
  exact ⟨rfl, HB1.out⟩
end Go.Proofs.YtbkiedhaacapbaaDoor

namespace Go.Proofs.YtbkiedhaacapbaaDoor
open Go.RowKit Go.Sort
set_option maxRecDepth 100000
variable {n : Nat} {sl sl2 : Value} {xs ys : List Int} {w : World}
set_option maxHeartbeats 4000000 in
theorem cSameT (hp : tourP n xs) (h : Rd w sl xs) (hp2 : tourP n ys) (h2 : Rd w sl2 ys) :
    Calls Tryd.prog 15 #[.agg #[.int .i64 n, sl], .agg #[.int .i64 n, sl2]] w fun e w' => e = .returned (.bool (decide (xs = ys))) ∧ Below w.heap.size w w' := by
  have HR := Lib.hid h
  have HR2 := Lib.hid h2
  have HP := Lib.hid hp
  have HP2 := Lib.hid hp2
  obtain ⟨A, c, rfl, -, -, -⟩ := h
  obtain ⟨B, d, rfl, -, -, -⟩ := h2
  rw [tour_len hp] at *
  rw [tour_len hp2] at *
  clear hp hp2
  obtain ⟨b, hb⟩ : ∃ b, b = decide (xs = ys) := ⟨_, rfl⟩
  rw [← hb]
  have HBE := Lib.hid hb
  clear hb
  go_enter Tryd.func15, Tryd.ntmps15
  have bx := (below_alloc1 w (.cells #[.int .i64 n, .slice A n c] 25)).alloc (by simp) (.cells #[.int .i64 n, .slice B n d] 25)
  have tx := (TBox.new w n (.slice A n c) 25).below (below_alloc1 _ (.cells #[.int .i64 n, .slice B n d] 25))
  have tx2 := TBox.new (w.alloc (.cells #[.int .i64 n, .slice A n c] 25)) n (.slice B n d) 25
  simp only [World.size_alloc] at tx2
  go_wp2_with fail
  generalize (w.alloc (.cells #[.int .i64 n, .slice A n c] 25)).alloc (.cells #[.int .i64 n, .slice B n d] 25) = w0 at *
  have HB0 := Lib.hid bx
  have HA0 := Lib.hid tx
  have HC0 := Lib.hid tx2
  clear bx tx tx2
  have y0 := HA0.out.1
  have y1 := HA0.out.2
  have x0 := HC0.out.1
  have x1 := HC0.out.2
  go_wp2_with fail
  refine (implTourOk n _ xs _ (HR.out.below HB0.out)).mono ?_
  rintro e w1 ⟨rfl, hb1⟩
  rw [tourB_true.2 HP.out]
  have HA1 := Lib.hid (HA0.out.below hb1)
  have HC1 := Lib.hid (HC0.out.below hb1)
  have HB1 := Lib.hid (Below.then HB0.out hb1)
  clear hb1 y0 y1 x0 x1 HA0 HC0 HB0
  have y0 := HA1.out.1
  have y1 := HA1.out.2
  have x0 := HC1.out.1
  have x1 := HC1.out.2
  go_wp2_with fail
  refine (implTourOk n _ ys _ (HR2.out.below HB1.out)).mono ?_
  rintro e w2 ⟨rfl, hb2⟩
  rw [tourB_true.2 HP2.out]
  have HA2 := Lib.hid (HA1.out.below hb2)
  have HC2 := Lib.hid (HC1.out.below hb2)
  have HB2 := Lib.hid (Below.then HB1.out hb2)
  clear hb2 y0 y1 x0 x1 HA1 HC1 HB1
  have y0 := HA2.out.1
  have y1 := HA2.out.2
  have x0 := HC2.out.1
  have x1 := HC2.out.2
  go_wp2_with fail
  refine (same_any n _ _ xs ys _ (HR.out.below HB2.out) (HR2.out.below HB2.out)).mono ?_
  rintro e w3 ⟨rfl, hb3⟩
  rw [← HBE.out]
  have HB3 := Lib.hid (Below.then HB2.out hb3)
  clear hb3 y0 y1 x0 x1
  go_wp2
  go_ret
  exact ⟨rfl, HB3.out⟩
end Go.Proofs.YtbkiedhaacapbaaDoor

namespace Go.Proofs.YtbkiedhaacapbaaDoor
open Go.RowKit Go.Sort
set_option maxRecDepth 100000
section
variable {n : Nat} {xs : List Int}
theorem wins_n (hp : tourP n xs) {a : Nat} (ha : a < n) : winsN xs a < 2 ^ n := by
  have := (tour_wins hp (tour_len hp ▸ ha)).2.1
  rwa [show ((n : Int)).toNat = n from rfl] at this
theorem bt_hi (hp : tourP n xs) {a b : Nat} (ha : a < n) (hb : bt xs a b = true) : b < n := by
  rcases Nat.lt_or_ge b n with h | h
  · exact h
  · have := wins_hi hp (tour_len hp ▸ ha) (b := b) (by rw [tour_len hp]; exact h)
    unfold bt at hb
    rw [this] at hb; cases hb
/-- a king reaches everybody in two steps -/
theorem king_iff (hp : tourP n xs) {a : Nat} (ha : a < n) : kingN xs a = true ↔ ∀ c, c < n → c = a ∨ bt xs a c = true ∨ ∃ b, b < n ∧ bt xs a b = true ∧ bt xs b c = true := by
  have hl := tour_len hp
  have h8 : n ≤ 8 := by have := hp.1; omega
  have hb : ∀ c, (nearN xs a).testBit c = true ↔ (bt xs a c = true ∨ a = c) ∨ ∃ b, b < n ∧ bt xs a b = true ∧ bt xs b c = true := fun c => by
    unfold nearN
    rw [testBit_orK, Nat.testBit_or, Nat.testBit_two_pow]
    simp only [Bool.or_eq_true, decide_eq_true_eq, List.any_eq_true]
    constructor
    · rintro (h | ⟨b, hb, h⟩)
      · exact .inl h
      · have h2 := (mem_memN.1 hb).2
        exact .inr ⟨b, bt_hi hp ha h2, h2, h⟩
    · rintro (h | ⟨b, hb, h1, h2⟩)
      · exact .inl h
      · exact .inr ⟨b, mem_memN.2 ⟨by omega, h1⟩, h2⟩
  have hlt : nearN xs a < 2 ^ n := by
    have := orK_ltn (xs := xs) (fun b hb => by rw [hl]; exact wins_n hp (by rw [hl] at hb; exact hb)) (wins_mem hp (by omega : a < xs.length)) (S := winsN xs a ||| 2 ^ a) (by rw [hl]; exact Nat.or_lt_two_pow (wins_n hp ha) (Nat.pow_lt_pow_right (by decide) ha))
    rw [hl] at this
    exact this
  unfold kingN
  rw [hl, beq_iff_eq]
  constructor
  · intro e c hc
    have := hb c
    rw [e, testBit_full, decide_eq_true_eq] at this
    rcases this.1 hc with (h | h) | h
    · exact .inr (.inl h)
    · exact .inl h.symm
    · exact .inr (.inr h)
  · intro h
    refine Nat.eq_of_testBit_eq fun j => ?_
    rw [testBit_full]
    by_cases hj : j < n
    · rw [decide_eq_true hj]
      refine (hb j).2 ?_
      rcases h j hj with h | h | h
      · exact .inl (.inr h.symm)
      · exact .inl (.inl h)
      · exact .inr h
    · rw [decide_eq_false hj]
      exact Nat.testBit_lt_two_pow (Nat.lt_of_lt_of_le hlt (Nat.pow_le_pow_right (by decide) (by omega)))
theorem bt_flip (hp : tourP n xs) {a b : Nat} (ha : a < n) (hb : b < n) (hab : a ≠ b) : (bt xs a b = true ↔ bt xs b a = false) := by
  rw [(tr_bit hp ha hb).2 hab]
  cases bt xs b a <;> simp
theorem bt_asym (hp : tourP n xs) {a b : Nat} (ha : a < n) (hb : b < n) (h : bt xs a b = true) : bt xs b a = false ∧ a ≠ b := by
  have hab : a ≠ b := fun e => by rw [(tr_bit hp ha hb).1 e] at h; cases h
  exact ⟨(bt_flip hp ha hb hab).1 h, hab⟩
/-- c beats a, and all whom a beats -/
def cvN (xs : List Int) (n c a : Nat) : Prop := bt xs c a = true ∧ ∀ j, j < n → bt xs a j = true → bt xs c j = true
theorem king_cover (hp : tourP n xs) {a : Nat} (ha : a < n) : kingN xs a = false ↔ ∃ c, c < n ∧ cvN xs n c a := by
  constructor
  · intro hk
    have hk' : ¬ (∀ c, c < n → c = a ∨ bt xs a c = true ∨ ∃ b, b < n ∧ bt xs a b = true ∧ bt xs b c = true) := fun h => by rw [(king_iff hp ha).2 h] at hk; cases hk
    obtain ⟨c, hc⟩ := Classical.not_forall.1 hk'
    obtain ⟨hcn, h⟩ := Classical.not_imp.1 hc
    rw [not_or, not_or] at h
    obtain ⟨h1, h2, h3⟩ := h
    have hca : bt xs c a = true := (bt_flip hp hcn ha h1).2 (by simpa using h2)
    refine ⟨c, hcn, hca, fun j hj haj => ?_⟩
    have hcj : c ≠ j := fun e => by subst e; exact h2 haj
    refine (bt_flip hp hcn hj hcj).2 ?_
    rcases q : bt xs j c with _ | _
    · rfl
    · exact absurd ⟨j, hj, haj, q⟩ h3
  · rintro ⟨c, hc, h1, h2⟩
    rcases q : kingN xs a with _ | _
    · rfl
    · exfalso
      have hac := bt_asym hp hc ha h1
      rcases (king_iff hp ha).1 q c hc with h | h | ⟨b, hb, h3, h4⟩
      · exact hac.2 h
      · rw [hac.1] at h; cases h
      · have := h2 b hb h3
        rw [(bt_asym hp hb hc h4).1] at this; cases this
theorem kst_mem (hp : tourP n xs) {a b : Nat} : b ∈ loseN xs a xs.length ↔ b < n ∧ bt xs b a = true := by
  rw [mem_loseN, tour_len hp]
  constructor
  · rintro ⟨h1, h2⟩
    exact ⟨h1, by rw [← bitI_bt (tour_wins hp (by rw [tour_len hp]; exact h1)).1]; exact h2⟩
  · rintro ⟨h1, h2⟩
    exact ⟨h1, by rw [bitI_bt (tour_wins hp (by rw [tour_len hp]; exact h1)).1]; exact h2⟩
/-- the step: to a king who beats a, if anybody does -/
theorem kst_king (hp : tourP n xs) {a : Nat} (ha : a < n) (hex : ∃ b, b < n ∧ bt xs b a = true) : kstepN xs a < n ∧ bt xs (kstepN xs a) a = true ∧ kingN xs (kstepN xs a) = true := by
  have hself : a ∉ loseN xs a xs.length := fun h => by have := (kst_mem hp).1 h; rw [(tr_bit hp ha ha).1 rfl] at this; cases this.2
  rcases kstK_best (xs := xs) hself with ⟨e, _⟩ | ⟨hm, hx⟩
  · obtain ⟨b, hb, h⟩ := hex
    have := (kst_mem hp).2 ⟨hb, h⟩
    rw [e] at this; cases this
  · have hm' := (kst_mem hp).1 hm
    change kstepN xs a < n ∧ _ at hm'
    refine ⟨hm'.1, hm'.2, ?_⟩
    rcases q : kingN xs (kstepN xs a) with _ | _
    · exfalso
      obtain ⟨c, hc, h1, h2⟩ := (king_cover hp hm'.1).1 q
      have hca := h2 a ha hm'.2
      have h3 : popN 8 (winsN xs c) ≤ popN 8 (winsN xs (kstepN xs a)) := hx c ((kst_mem hp).2 ⟨hc, hca⟩)
      have e1 := sc_sum hp hc
      have e2 := sc_sum hp hm'.1
      have hle : sumN (fun b => if bt xs (kstepN xs a) b = true then (1 : Int) else 0) n + 1 ≤ sumN (fun b => if bt xs c b = true then (1 : Int) else 0) n := by
        have e3 : sumN (fun b => (if bt xs (kstepN xs a) b = true then (1 : Int) else 0) + (if b = kstepN xs a then 1 else 0)) n = sumN (fun b => if bt xs (kstepN xs a) b = true then (1 : Int) else 0) n + 1 := by
          rw [sumN_add, sumN_one hm'.1 (fun k _ hk => if_neg hk), if_pos rfl]
        rw [← e3]
        have : ∀ m, m ≤ n → sumN (fun b => (if bt xs (kstepN xs a) b = true then (1 : Int) else 0) + (if b = kstepN xs a then 1 else 0)) m ≤ sumN (fun b => if bt xs c b = true then (1 : Int) else 0) m := by
          intro m
          induction m with
          | zero => intro _; simp [sumN]
          | succ m ih =>
            intro hm
            have ih := ih (by omega)
            rw [sumN, sumN]
            have : (if bt xs (kstepN xs a) m = true then (1 : Int) else 0) + (if m = kstepN xs a then 1 else 0) ≤ if bt xs c m = true then (1 : Int) else 0 := by
              by_cases e : m = kstepN xs a
              · rw [if_pos e, e, (tr_bit hp hm'.1 hm'.1).1 rfl, if_pos h1]; simp
              · rw [if_neg e]
                rcases q2 : bt xs (kstepN xs a) m with _ | _
                · simp; split <;> omega
                · rw [h2 m (by omega) q2]; simp
            omega
        exact this n (Nat.le_refl _)
      rw [← e1, ← e2] at hle
      unfold scN at hle
      omega
    · rfl
theorem kst_none {a : Nat} (hp : tourP n xs) (hno : ∀ b, b < n → bt xs b a = false) : kstepN xs a = a := by
  have : loseN xs a xs.length = [] := List.eq_nil_iff_forall_not_mem.2 fun b hb => by
    have := (kst_mem hp).1 hb
    rw [hno b this.1] at this; cases this.2
  unfold kstepN
  rw [this]
  rfl
/-- the set of kings -/
def kgS (xs : List Int) (n : Nat) : Nat := setOf (fun a => kingN xs a) n
theorem kg_bit {a : Nat} : (kgS xs n).testBit a = true ↔ a < n ∧ kingN xs a = true := by
  unfold kgS
  rw [testBit_setOf]
  simp
theorem kg_lt : kgS xs n < 2 ^ n := setOf_lt _ _
/-- a sovereign beats everybody -/
def svP (xs : List Int) (n a : Nat) : Prop := a < n ∧ ∀ b, b < n → bt xs b a = false
theorem sv_score (hp : tourP n xs) {a : Nat} (ha : a < n) : scN xs a = n - 1 ↔ svP xs n a := by
  have h := by_sum hp ha
  constructor
  · intro e
    have h0 : sumN (fun b => if bt xs b a = true then (1 : Int) else 0) n = 0 := by omega
    refine ⟨ha, fun b hb => ?_⟩
    rcases q : bt xs b a with _ | _
    · rfl
    · exfalso
      have h1 : sumN (fun k => if k = b then (1 : Int) else 0) n ≤ sumN (fun b => if bt xs b a = true then (1 : Int) else 0) n := by
        have : 0 ≤ sumN (fun k => (if bt xs k a = true then (1 : Int) else 0) - if k = b then 1 else 0) n := sumN_nonneg fun k hk => by
          by_cases e : k = b
          · subst e; rw [q]; simp
          · rw [if_neg e]; split <;> omega
        rw [sumN_sub] at this
        omega
      rw [sumN_one hb (fun k _ hk => if_neg hk), if_pos rfl] at h1
      omega
  · rintro ⟨-, h1⟩
    have h0 : sumN (fun b => if bt xs b a = true then (1 : Int) else 0) n = 0 := sumN_zero' fun b hb => by rw [h1 b hb]; rfl
    omega
theorem sv_king (hp : tourP n xs) {a : Nat} (h : svP xs n a) : ∀ b, b < n → (kingN xs b = true ↔ b = a) := by
  intro b hb
  have hall : ∀ c, c < n → c ≠ a → bt xs a c = true := fun c hc hca => (bt_flip hp h.1 hc (Ne.symm hca)).2 (h.2 c hc)
  constructor
  · intro hk
    refine Classical.byContradiction fun hba => ?_
    rcases (king_iff hp hb).1 hk a h.1 with e | e | ⟨c, hc, -, e⟩
    · exact hba e.symm
    · rw [h.2 b hb] at e; cases e
    · rw [h.2 c hc] at e; cases e
  · rintro rfl
    refine (king_iff hp hb).2 fun c hc => ?_
    by_cases e : c = b
    · exact .inl e
    · exact .inr (.inl (hall c hc e))
theorem king_ex (hp : tourP n xs) : ∃ a, a < n ∧ kingN xs a = true := by
  have hn : 0 < n := by have := hp.1; omega
  by_cases h : ∃ b, b < n ∧ bt xs b 0 = true
  · have := kst_king hp hn h
    exact ⟨_, this.1, this.2.2⟩
  · have hs : svP xs n 0 := ⟨hn, fun b hb => by
      rcases q : bt xs b 0 with _ | _
      · rfl
      · exact absurd ⟨b, hb, q⟩ h⟩
    exact ⟨0, hn, (sv_king hp hs 0 hn).2 rfl⟩
theorem three_len {l : List Nat} {a b c : Nat} (ha : a ∈ l) (hb : b ∈ l) (hc : c ∈ l) (h1 : a ≠ b) (h2 : a ≠ c) (h3 : b ≠ c) : 3 ≤ l.length := by
  have e1 := List.length_erase_of_mem ha
  have hb' : b ∈ l.erase a := (List.mem_erase_of_ne (Ne.symm h1)).2 hb
  have hc' : c ∈ l.erase a := (List.mem_erase_of_ne (Ne.symm h2)).2 hc
  have e2 := List.length_erase_of_mem hb'
  have hc'' : c ∈ (l.erase a).erase b := (List.mem_erase_of_ne (Ne.symm h3)).2 hc'
  have e3 := List.length_pos_of_mem hc''
  omega
/-- one king, who is the sovereign, or three at least -/
theorem king_three (hp : tourP n xs) (hno : ∀ a, ¬ svP xs n a) : 3 ≤ popN 8 (kgS xs n) := by
  have h8 : n ≤ 8 := by have := hp.1; omega
  have hdom : ∀ a, a < n → ∃ b, b < n ∧ bt xs b a = true := fun a ha => by
    refine Classical.byContradiction fun h => hno a ⟨ha, fun b hb => ?_⟩
    rcases q : bt xs b a with _ | _
    · rfl
    · exact absurd ⟨b, hb, q⟩ h
  obtain ⟨a, ha, ka⟩ := king_ex hp
  obtain ⟨hb, ba, kb⟩ := kst_king hp ha (hdom a ha)
  generalize kstepN xs a = b at *
  obtain ⟨hc, cb, kc⟩ := kst_king hp hb (hdom b hb)
  generalize kstepN xs b = c at *
  have h256 : kgS xs n < 256 := Nat.lt_of_lt_of_le kg_lt (Nat.pow_le_pow_right (n := 2) (j := 8) (by decide) h8)
  rw [pop_mem h256]
  have hca : c ≠ a := fun e => by subst e; rw [(bt_asym hp hc hb cb).1] at ba; cases ba
  exact three_len (a := a) (b := b) (c := c) (mem_memN.2 ⟨by omega, kg_bit.2 ⟨ha, ka⟩⟩) (mem_memN.2 ⟨by omega, kg_bit.2 ⟨hb, kb⟩⟩) (mem_memN.2 ⟨by omega, kg_bit.2 ⟨hc, kc⟩⟩) (Ne.symm (bt_asym hp hb ha ba).2) (Ne.symm hca) (Ne.symm (bt_asym hp hc hb cb).2)
theorem sv_kings (hp : tourP n xs) {a : Nat} (h : svP xs n a) : kgS xs n = 2 ^ a := by
  refine Nat.eq_of_testBit_eq fun j => ?_
  rw [Nat.testBit_two_pow]
  rw [Bool.eq_iff_iff, kg_bit, decide_eq_true_eq]
  constructor
  · rintro ⟨hj, hk⟩; exact ((sv_king hp h j hj).1 hk).symm
  · rintro rfl; exact ⟨h.1, (sv_king hp h a h.1).2 rfl⟩
theorem pop_pow {a : Nat} (h : a < 8) : popN 8 (2 ^ a) = 1 := by
  have : ∀ a : Fin 8, popN 8 (2 ^ a.1) = 1 := by decide
  exact this ⟨a, h⟩
end
end Go.Proofs.YtbkiedhaacapbaaDoor

namespace Go.Proofs.YtbkiedhaacapbaaDoor
open Go.RowKit Go.Sort
set_option maxRecDepth 100000

/-- from the right: how far x goes -/
def posR (bef : Int → Int → Bool) (x : Int) (S : List Int) : Nat → Nat
  | 0 => 0
  | k + 1 => if bef x (S.getD k 0) = true then posR bef x S k else k + 1
def insR (bef : Int → Int → Bool) (S : List Int) (x : Int) : List Int := S.take (posR bef x S S.length) ++ x :: S.drop (posR bef x S S.length)
def sortR (bef : Int → Int → Bool) (L : List Int) : List Int := L.foldl (insR bef) []
theorem posR_le (bef : Int → Int → Bool) (x : Int) (S : List Int) (k : Nat) : posR bef x S k ≤ k := by
  induction k with
  | zero => exact Nat.le_refl _
  | succ k ih =>
    simp only [posR]
    split <;> omega
theorem posR_go {bef : Int → Int → Bool} {x : Int} {S : List Int} {k : Nat} (h : bef x (S.getD k 0) = true) : posR bef x S (k + 1) = posR bef x S k := by simp only [posR, h, if_true]
theorem posR_stop {bef : Int → Int → Bool} {x : Int} {S : List Int} {k : Nat} (h : bef x (S.getD k 0) = false) : posR bef x S (k + 1) = k + 1 := by simp only [posR, h]; rfl
theorem insR_len (bef : Int → Int → Bool) (S : List Int) (x : Int) : (insR bef S x).length = S.length + 1 := by
  have := posR_le bef x S S.length
  unfold insR
  simp; omega
theorem sortR_succ (bef : Int → Int → Bool) (L : List Int) {i : Nat} (h : i < L.length) : sortR bef (L.take (i + 1)) = insR bef (sortR bef (L.take i)) (L.getD i 0) := by
  unfold sortR
  rw [List.take_succ_eq_append_getElem h, List.foldl_append, show L.getD i 0 = L[i] by simp [h]]
  rfl
theorem sortR_len (bef : Int → Int → Bool) (L : List Int) {i : Nat} (h : i ≤ L.length) : (sortR bef (L.take i)).length = i := by
  induction i with
  | zero => rfl
  | succ i ih => rw [sortR_succ bef L (by omega), insR_len, ih (by omega)]
/-- the row while x is on its way: it stands at j -/
def midR (S : List Int) (x : Int) (rest : List Int) (j : Nat) : List Int := S.take j ++ x :: S.drop j ++ rest
theorem midR_len (S : List Int) (x : Int) (rest : List Int) (j : Nat) (h : j ≤ S.length) : (midR S x rest j).length = S.length + 1 + rest.length := by
  unfold midR; simp; omega
theorem midR_at (S : List Int) (x : Int) (rest : List Int) (j : Nat) (h : j ≤ S.length) : (midR S x rest j).getD j 0 = x := by
  unfold midR
  have hl : (S.take j).length = j := by rw [List.length_take]; omega
  rw [List.append_assoc, List.getD_eq_getElem?_getD, List.getElem?_append_right (by omega), hl, Nat.sub_self]
  rfl
theorem midR_prev (S : List Int) (x : Int) (rest : List Int) (j : Nat) (h : j + 1 ≤ S.length) : (midR S x rest (j + 1)).getD j 0 = S.getD j 0 := by
  unfold midR
  have hl : (S.take (j + 1)).length = j + 1 := by rw [List.length_take]; omega
  rw [List.append_assoc, List.getD_eq_getElem?_getD, List.getElem?_append_left (by omega), List.getElem?_take, if_pos (by omega), ← List.getD_eq_getElem?_getD]
theorem midR_swap (S : List Int) (x : Int) (rest : List Int) (j : Nat) (h : j + 1 ≤ S.length) : ((midR S x rest (j + 1)).set (j + 1) (S.getD j 0)).set j x = midR S x rest j := by
  have e1 : S.take (j + 1) = S.take j ++ [S.getD j 0] := by
    rw [List.take_succ_eq_append_getElem (by omega), show S.getD j 0 = S[j] by simp [show j < S.length by omega]]
  have e2 : S.drop j = S.getD j 0 :: S.drop (j + 1) := by
    rw [List.drop_eq_getElem_cons (by omega : j < S.length), show S.getD j 0 = S[j] by simp [show j < S.length by omega]]
  have hlj : (S.take j).length = j := by rw [List.length_take]; omega
  unfold midR
  rw [e1, e2]
  generalize S.getD j 0 = y
  generalize S.take j = P at *
  simp only [List.append_assoc, List.cons_append, List.nil_append]
  rw [List.set_append_right _ _ (by omega), hlj, show j + 1 - j = 1 by omega, List.set_cons_succ, List.set_cons_zero, List.set_append_right _ _ (by omega), hlj, Nat.sub_self, List.set_cons_zero]
theorem midR_start (S : List Int) (x : Int) (rest : List Int) : midR S x rest S.length = S ++ x :: rest := by
  unfold midR; simp
theorem midR_end (bef : Int → Int → Bool) (S : List Int) (x : Int) (rest : List Int) (j : Nat) (h : posR bef x S S.length = j) : midR S x rest j = insR bef S x ++ rest := by
  unfold midR insR; rw [h]
theorem mem_insR {bef : Int → Int → Bool} {S : List Int} {x y : Int} (h : y ∈ insR bef S x) : y = x ∨ y ∈ S := by
  unfold insR at h
  rw [List.mem_append, List.mem_cons] at h
  rcases h with h | h | h
  · exact .inr (List.mem_of_mem_take h)
  · exact .inl h
  · exact .inr (List.mem_of_mem_drop h)
theorem mem_sortR {bef : Int → Int → Bool} {L : List Int} {y : Int} {i : Nat} (hi : i ≤ L.length) (h : y ∈ sortR bef (L.take i)) : y ∈ L := by
  induction i with
  | zero => simp [sortR] at h
  | succ i ih =>
    rw [sortR_succ bef L (by omega)] at h
    rcases mem_insR h with rfl | h
    · rw [show L.getD i 0 = L[i] by simp [show i < L.length by omega]]; exact List.getElem_mem _
    · exact ih (by omega) h
theorem drop_eq' {L : List Int} {k : Nat} (h : k < L.length) : L.drop k = L.getD k 0 :: L.drop (k + 1) := by
  rw [List.drop_eq_getElem_cons h, show L.getD k 0 = L[k] by simp [h]]
theorem getD_memI {L : List Int} {i : Nat} (h : i < L.length) : L.getD i 0 ∈ L := by
  rw [show L.getD i 0 = L[i] by simp [h]]; exact List.getElem_mem h
theorem sortR_one (bef : Int → Int → Bool) (L : List Int) (h : 1 ≤ L.length) : sortR bef (L.take 1) ++ L.drop 1 = L := by
  cases L with
  | nil => simp at h
  | cons x L => simp [sortR, insR, posR]
end Go.Proofs.YtbkiedhaacapbaaDoor

namespace Go.Proofs.YtbkiedhaacapbaaDoor
open Go.RowKit Go.Sort
set_option maxRecDepth 100000
def clo (xs : List Int) (S : Nat) : Prop := ∀ b c, S.testBit b = true → (winsN xs b).testBit c = true → S.testBit c = true
theorem it_sup (xs : List Int) (n : Nat) : ∀ f S c, S.testBit c = true → (itN xs n f S).testBit c = true := by
  intro f
  induction f with
  | zero => intro S c h; exact h
  | succ f ih =>
    intro S c h
    rw [itN]
    split
    · exact h
    · exact ih _ _ (by rw [testBit_orK, h]; rfl)
theorem it_sub {xs : List Int} {n T : Nat} (hT : clo xs T) : ∀ f S, (∀ c, S.testBit c = true → T.testBit c = true) → ∀ c, (itN xs n f S).testBit c = true → T.testBit c = true := by
  intro f
  induction f with
  | zero => intro S h c hc; exact h c hc
  | succ f ih =>
    intro S h c hc
    rw [itN] at hc
    split at hc
    · exact h c hc
    · refine ih _ (fun d hd => ?_) c hc
      rw [testBit_orK, Bool.or_eq_true, List.any_eq_true] at hd
      rcases hd with hd | ⟨b, hb, hbd⟩
      · exact h d hd
      · exact hT b d (h b (mem_memN.1 hb).2) hbd
theorem it_fix {xs : List Int} {n : Nat} (hn : n ≤ 8) (hw : ∀ b, b < n → winsN xs b < 2 ^ n) : ∀ f S, S < 2 ^ n → 256 ≤ f + S → itN xs n f S < 2 ^ n ∧ orK xs (memN (itN xs n f S) n) (itN xs n f S) = itN xs n f S := by
  have hp := pow_le hn
  intro f
  induction f with
  | zero => intro S hS h; omega
  | succ f ih =>
    intro S hS h
    rw [itN]
    split
    · rename_i he; exact ⟨hS, he⟩
    · rename_i he
      have h1 := orK_ge xs (memN S n) S
      exact ih _ (orK_ltn hw (fun b hb => (mem_memN.1 hb).1) hS) (by omega)
theorem reach_facts {s : Int} {xs : List Int} (hp : tourP s xs) {a : Nat} (ha : a < xs.length) :
    (reachN xs a).testBit a = true ∧ clo xs (reachN xs a) ∧ (∀ T, clo xs T → T.testBit a = true → ∀ c, (reachN xs a).testBit c = true → T.testBit c = true) ∧ reachN xs a < 2 ^ xs.length := by
  have hn : xs.length ≤ 8 := by have := hp.1; have := hp.2.1; omega
  have hw : ∀ b, b < xs.length → winsN xs b < 2 ^ xs.length := fun b hb => by
    have := (tour_wins hp hb).2.1
    rwa [show s.toNat = xs.length by have := hp.2.1; omega] at this
  have h2 : 2 ^ a < 2 ^ xs.length := Nat.pow_lt_pow_right (by decide) ha
  have h34 : reachN xs a < 2 ^ xs.length ∧ orK xs (memN (reachN xs a) xs.length) (reachN xs a) = reachN xs a := it_fix hn hw 256 (2 ^ a) h2 (Nat.le_add_right _ _)
  obtain ⟨h3, h4⟩ := h34
  refine ⟨it_sup xs xs.length 256 (2 ^ a) a (by simp), fun b c hb hc => ?_, fun T hT hTa c hc => it_sub hT 256 (2 ^ a) (fun d hd => ?_) c hc, h3⟩
  · have hbn : b < xs.length := by
      rcases Nat.lt_or_ge b xs.length with h | h
      · exact h
      · rw [Nat.testBit_lt_two_pow (Nat.lt_of_lt_of_le h3 (Nat.pow_le_pow_right (by decide) h))] at hb; cases hb
    have : (orK xs (memN (reachN xs a) xs.length) (reachN xs a)).testBit c = true := by
      rw [testBit_orK, Bool.or_eq_true, List.any_eq_true]
      exact .inr ⟨b, mem_memN.2 ⟨hbn, hb⟩, hc⟩
    rwa [h4] at this
  · rw [Nat.testBit_two_pow] at hd
    have : a = d := by simpa using hd
    subst this; exact hTa
theorem sub_eq {A B : Nat} (h1 : ∀ c, A.testBit c = true → B.testBit c = true) (h2 : ∀ c, B.testBit c = true → A.testBit c = true) : A = B :=
  Nat.eq_of_testBit_eq fun c => by rw [Bool.eq_iff_iff]; exact ⟨h1 c, h2 c⟩
theorem bit_lt {S n c : Nat} (hS : S < 2 ^ n) (h : S.testBit c = true) : c < n := by
  rcases Nat.lt_or_ge c n with h1 | h1
  · exact h1
  · rw [Nat.testBit_lt_two_pow (Nat.lt_of_lt_of_le hS (Nat.pow_le_pow_right (by decide) h1))] at h; cases h
def scK (xs : List Int) (a : Nat) : Nat := popN 8 (winsN xs a)
/-- who beats all of another one's reach has the greater score -/
theorem score_up {s : Int} {xs : List Int} (hp : tourP s xs) {a d : Nat} (ha : a < xs.length) (hd : d < xs.length) (h : ∀ e, (reachN xs a).testBit e = true → (winsN xs d).testBit e = true) : scK xs a < scK xs d := by
  have hn : xs.length ≤ 8 := by have := hp.1; have := hp.2.1; omega
  obtain ⟨h1, h2, -, h4⟩ := reach_facts hp ha
  unfold scK
  rw [pop_mem (tour_wins hp ha).2.2, pop_mem (tour_wins hp hd).2.2]
  have h5 := card_less (S := reachN xs a) (n := 8) (b := a) (mem_memN.2 ⟨by omega, h1⟩)
  have h6 := card_mono (S := winsN xs a) (T := less (reachN xs a) (2 ^ a)) (n := 8) (fun j hj => by
    rw [testBit_less, h2 a j h1 hj, Nat.testBit_two_pow]
    by_cases e : a = j
    · subst e; rw [beat_self hp ha] at hj; cases hj
    · simp [e])
  have h7 := card_mono (S := reachN xs a) (T := winsN xs d) (n := 8) h
  omega
/-- who is not reached beats all that are -/
theorem beats_reach {s : Int} {xs : List Int} (hp : tourP s xs) {a d : Nat} (ha : a < xs.length) (hd : d < xs.length) (h : (reachN xs a).testBit d = false) : ∀ e, (reachN xs a).testBit e = true → (winsN xs d).testBit e = true := by
  intro e he
  obtain ⟨-, h2, -, h4⟩ := reach_facts hp ha
  have hen := bit_lt h4 he
  have hne : d ≠ e := by intro e'; subst e'; rw [he] at h; cases h
  rw [beat_one hp hd hen hne]
  rcases q : (winsN xs e).testBit d with _ | _
  · rfl
  · rw [h2 e d he q] at h; cases h
def topF (xs : List Int) (n S : Nat) : Nat := setOf (fun a => S.testBit a && reachN xs a == S) n
theorem testBit_topF (xs : List Int) (n S c : Nat) : (topF xs n S).testBit c = (decide (c < n) && (S.testBit c && reachN xs c == S)) := testBit_setOf _ _ _
def partsF (xs : List Int) (n : Nat) : Nat → Nat → List Nat
  | 0, _ => []
  | f + 1, S => if S = 0 then [] else topF xs n S :: partsF xs n f (less S (topF xs n S))
theorem top_some {s : Int} {xs : List Int} (hp : tourP s xs) {S : Nat} (hS : S < 2 ^ xs.length) (hc : clo xs S) : ∀ k a, S.testBit a = true → 8 - scK xs a ≤ k → ∃ b, S.testBit b = true ∧ reachN xs b = S := by
  intro k
  induction k with
  | zero =>
    intro a ha hk
    have han := bit_lt hS ha
    obtain ⟨-, -, h3, h4⟩ := reach_facts hp han
    refine ⟨a, ha, sub_eq (h3 S hc ha) fun d hd => ?_⟩
    rcases q : (reachN xs a).testBit d with _ | _
    · have h5 := score_up hp han (bit_lt hS hd) (beats_reach hp han (bit_lt hS hd) q)
      have h6 : scK xs d ≤ 8 := by unfold scK; rw [pop_mem (tour_wins hp (bit_lt hS hd)).2.2]; exact memN_len _ _
      omega
    · rfl
  | succ k ih =>
    intro a ha hk
    have han := bit_lt hS ha
    obtain ⟨-, -, h3, h4⟩ := reach_facts hp han
    by_cases he : reachN xs a = S
    · exact ⟨a, ha, he⟩
    · have : ∃ d, S.testBit d = true ∧ (reachN xs a).testBit d = false := by
        apply Classical.byContradiction
        intro hno
        refine he (sub_eq (h3 S hc ha) fun d hd => ?_)
        rcases q : (reachN xs a).testBit d with _ | _
        · exact absurd ⟨d, hd, q⟩ hno
        · rfl
      obtain ⟨d, hd, hq⟩ := this
      have h5 := score_up hp han (bit_lt hS hd) (beats_reach hp han (bit_lt hS hd) hq)
      have h6 : scK xs d ≤ 8 := by unfold scK; rw [pop_mem (tour_wins hp (bit_lt hS hd)).2.2]; exact memN_len _ _
      exact ih d hd (by omega)
theorem add_disj {A B : Nat} (hA : A < 2 ^ 62) (hB : B < 2 ^ 62) (h : A &&& B = 0) : A + B = A ||| B := by
  have h1 : A < 2 ^ 64 := Nat.lt_trans hA (by decide)
  have h2 : B < 2 ^ 64 := Nat.lt_trans hB (by decide)
  have hb : (BitVec.ofNat 64 A) &&& (BitVec.ofNat 64 B) = 0#64 := by
    apply BitVec.eq_of_toNat_eq
    rw [BitVec.toNat_and, BitVec.toNat_ofNat, BitVec.toNat_ofNat, Nat.mod_eq_of_lt h1, Nat.mod_eq_of_lt h2, h]
    rfl
  have e1 : (2 : Nat) ^ 62 = 4611686018427387904 := by decide
  have e3 : (2 : Nat) ^ 64 = 18446744073709551616 := by decide
  have hlt : A + B < 2 ^ 64 := by omega
  have h3 := congrArg BitVec.toNat (BitVec.add_eq_or_of_and_eq_zero _ _ hb)
  rw [BitVec.toNat_add, BitVec.toNat_or, BitVec.toNat_ofNat, BitVec.toNat_ofNat, Nat.mod_eq_of_lt h1, Nat.mod_eq_of_lt h2, Nat.mod_eq_of_lt hlt] at h3
  exact h3
theorem less_sub {S T : Nat} (hS : S < 256) (hT : T < 256) (h : ∀ c, T.testBit c = true → S.testBit c = true) : less S T + T = S := by
  have h1 : less S T &&& T = 0 := Nat.eq_of_testBit_eq fun c => by
    rw [Nat.testBit_and, testBit_less, Nat.zero_testBit]
    cases S.testBit c <;> cases T.testBit c <;> rfl
  have h2 : less S T ||| T = S := Nat.eq_of_testBit_eq fun c => by
    rw [Nat.testBit_or, testBit_less]
    rcases q : T.testBit c with _ | _
    · simp
    · rw [h c q]; simp
  have h3 : less S T < 2 ^ 8 := less_lt hS
  have e : (256 : Nat) < 2 ^ 62 := by decide
  rw [add_disj (by omega) (by omega) h1, h2]
theorem top_sub (xs : List Int) (n S : Nat) : ∀ c, (topF xs n S).testBit c = true → S.testBit c = true := fun c h => by
  rw [testBit_topF] at h
  simp at h
  exact h.2.1
theorem rest_lt {s : Int} {xs : List Int} (hp : tourP s xs) {S : Nat} (hS : S < 2 ^ xs.length) (hc : clo xs S) (h0 : S ≠ 0) : less S (topF xs xs.length S) < S := by
  have hn : xs.length ≤ 8 := by have := hp.1; have := hp.2.1; omega
  have hp8 := pow_le hn
  have hT : topF xs xs.length S < 256 := setOf_small _ hn
  have h1 := less_sub (by omega) hT (top_sub xs xs.length S)
  obtain ⟨a, ha⟩ := Nat.exists_testBit_of_ne_zero h0
  obtain ⟨b, hb, hr⟩ := top_some hp hS hc 8 a ha (by omega)
  have h2 : (topF xs xs.length S).testBit b = true := by rw [testBit_topF]; simp [bit_lt hS hb, hb, hr]
  have h3 : topF xs xs.length S ≠ 0 := by intro e; rw [e] at h2; simp at h2
  omega
theorem rest_clo {s : Int} {xs : List Int} (hp : tourP s xs) {S : Nat} (hS : S < 2 ^ xs.length) (hc : clo xs S) : clo xs (less S (topF xs xs.length S)) := by
  intro b c hb hbc
  rw [testBit_less, Bool.and_eq_true] at hb
  have hbn := bit_lt hS hb.1
  have hcS := hc b c hb.1 hbc
  have hcn := bit_lt hS hcS
  obtain ⟨b1, b2, b3, -⟩ := reach_facts hp hbn
  obtain ⟨c1, c2, c3, -⟩ := reach_facts hp hcn
  rw [testBit_less, hcS, Bool.true_and]
  rcases q : (topF xs xs.length S).testBit c with _ | _
  · rfl
  · rw [testBit_topF] at q
    have hrc : reachN xs c = S := by simp at q; exact q.2.2
    have hrb : reachN xs b = S := sub_eq (b3 S hc hb.1) fun d hd => by
      rw [← hrc] at hd
      exact c3 _ b2 (b2 b c b1 hbc) d hd
    have : (topF xs xs.length S).testBit b = true := by rw [testBit_topF]; simp [hbn, hb.1, hrb]
    rw [this] at hb
    simp at hb
theorem parts_fuel {s : Int} {xs : List Int} (hp : tourP s xs) : ∀ f g S, S < f → S < g → S < 2 ^ xs.length → clo xs S → partsF xs xs.length f S = partsF xs xs.length g S := by
  intro f
  induction f with
  | zero => intro g S h; omega
  | succ f ih =>
    intro g S hf hg hS hc
    obtain ⟨g, rfl⟩ : ∃ k, g = k + 1 := ⟨g - 1, by omega⟩
    rw [partsF, partsF]
    split
    · rfl
    · rename_i h0
      have h1 := rest_lt hp hS hc h0
      rw [ih g _ (by omega) (by omega) (by omega) (rest_clo hp hS hc)]
def partsN (xs : List Int) (S : Nat) : List Nat := partsF xs xs.length (S + 1) S
theorem partsN_zero (xs : List Int) : partsN xs 0 = [] := by simp [partsN, partsF]
theorem partsN_step {s : Int} {xs : List Int} (hp : tourP s xs) {S : Nat} (hS : S < 2 ^ xs.length) (hc : clo xs S) (h0 : S ≠ 0) : partsN xs S = topF xs xs.length S :: partsN xs (less S (topF xs xs.length S)) := by
  have h1 := rest_lt hp hS hc h0
  unfold partsN
  rw [partsF, if_neg h0, parts_fuel hp S (less S (topF xs xs.length S) + 1) _ (by omega) (by omega) (by omega) (rest_clo hp hS hc)]
/-- one more part, from the back -/
theorem part_more {s : Int} {xs : List Int} (hp : tourP s xs) {K x : Nat} (hK : K < 2 ^ xs.length) (hc : clo xs K) (hx : x < xs.length) (hn : K.testBit x = false) (hlow : ∀ y, y < xs.length → scK xs y < scK xs x → K.testBit y = true) :
    less (reachN xs x) K = topF xs xs.length (reachN xs x) ∧ K ||| reachN xs x = reachN xs x ∧ less (reachN xs x) (topF xs xs.length (reachN xs x)) = K := by
  obtain ⟨x1, x2, x3, x4⟩ := reach_facts hp hx
  have hA : ∀ c, K.testBit c = true → (reachN xs x).testBit c = true := fun c h => by
    have hcn := bit_lt hK h
    have hne : x ≠ c := by intro e; subst e; rw [h] at hn; cases hn
    refine x2 x c x1 ?_
    rw [beat_one hp hx hcn hne]
    rcases q : (winsN xs c).testBit x with _ | _
    · rfl
    · rw [hc c x h q] at hn; cases hn
  have hB : ∀ c, (reachN xs x).testBit c = true → (K.testBit c = true ↔ ¬ reachN xs c = reachN xs x) := fun c h => by
    have hcn := bit_lt x4 h
    obtain ⟨c1, c2, c3, -⟩ := reach_facts hp hcn
    constructor
    · intro hk e
      have := c3 K hc hk x (by rw [e]; exact x1)
      rw [this] at hn; cases hn
    · intro hne
      refine hlow c hcn (score_up hp hcn hx (beats_reach hp hcn hx ?_))
      rcases q : (reachN xs c).testBit x with _ | _
      · rfl
      · exact absurd (sub_eq (c3 _ x2 h) (x3 _ c2 q)) hne
  refine ⟨Nat.eq_of_testBit_eq fun c => ?_, Nat.eq_of_testBit_eq fun c => ?_, Nat.eq_of_testBit_eq fun c => ?_⟩
  · rw [testBit_less, testBit_topF]
    rcases q : (reachN xs x).testBit c with _ | _
    · simp
    · have h1 := hB c q
      have h2 := bit_lt x4 q
      rcases k : K.testBit c with _ | _
      · rw [k] at h1
        have : reachN xs c = reachN xs x := Classical.byContradiction fun hne => by have := h1.2 hne; cases this
        simp [h2, this]
      · rw [k] at h1
        have := h1.1 rfl
        simp [this]
  · rw [Nat.testBit_or]
    rcases k : K.testBit c with _ | _
    · rfl
    · rw [hA c k]; rfl
  · rw [testBit_less, testBit_topF]
    rcases q : (reachN xs x).testBit c with _ | _
    · rcases k : K.testBit c with _ | _
      · rfl
      · rw [hA c k] at q; cases q
    · have h1 := hB c q
      have h2 := bit_lt x4 q
      rcases k : K.testBit c with _ | _
      · rw [k] at h1
        have : reachN xs c = reachN xs x := Classical.byContradiction fun hne => by have := h1.2 hne; cases this
        simp [h2, this]
      · rw [k] at h1
        have := h1.1 rfl
        simp [this]
theorem or_clo {xs : List Int} {A B : Nat} (hA : clo xs A) (hB : clo xs B) : clo xs (A ||| B) := fun b c hb hc => by
  rw [Nat.testBit_or, Bool.or_eq_true] at hb ⊢
  rcases hb with hb | hb
  · exact .inl (hA b c hb hc)
  · exact .inr (hB b c hb hc)
end Go.Proofs.YtbkiedhaacapbaaDoor

namespace Go.Proofs.YtbkiedhaacapbaaDoor
open Go.RowKit Go.Sort
set_option maxRecDepth 100000
def cardN (S n : Nat) : Nat := (memN S n).length
theorem cardN_succ (S n : Nat) : cardN S (n + 1) = cardN S n + if S.testBit n = true then 1 else 0 := by
  unfold cardN
  rw [memN_succ, List.length_append]
  split <;> simp
theorem card_split {S T : Nat} (h : ∀ c, T.testBit c = true → S.testBit c = true) (n : Nat) : cardN (less S T) n + cardN T n = cardN S n := by
  induction n with
  | zero => simp [cardN, memN]
  | succ n ih =>
    rw [cardN_succ, cardN_succ, cardN_succ, testBit_less]
    have := h n
    cases h1 : S.testBit n <;> cases h2 : T.testBit n <;> simp_all <;> omega
theorem card_pos {S n c : Nat} (hc : c < n) (h : S.testBit c = true) : 1 ≤ cardN S n := List.length_pos_of_mem (mem_memN.2 ⟨hc, h⟩)
theorem card_two {S n c d : Nat} (hc : c < n) (hd : d < n) (h1 : S.testBit c = true) (h2 : S.testBit d = true) (h : c ≠ d) : 2 ≤ cardN S n := by
  have h3 : d ∈ (memN S n).erase c := (List.mem_erase_of_ne (Ne.symm h)).2 (mem_memN.2 ⟨hd, h2⟩)
  have e := List.length_erase_of_mem (mem_memN.2 ⟨hc, h1⟩ : c ∈ memN S n)
  have := List.length_pos_of_mem h3
  unfold cardN; omega
theorem card_uniq {S n : Nat} (h : ∀ c d, c < n → d < n → S.testBit c = true → S.testBit d = true → c = d) : cardN S n ≤ 1 := by
  unfold cardN
  rcases q : memN S n with _ | ⟨a, _ | ⟨b, l⟩⟩
  · simp
  · simp
  · exfalso
    have ha := mem_memN.1 (show a ∈ memN S n by rw [q]; simp)
    have hb := mem_memN.1 (show b ∈ memN S n by rw [q]; simp)
    have := h a b ha.1 hb.1 ha.2 hb.2
    subst this
    have hn := memN_nodup S n
    rw [q] at hn
    simp at hn
theorem card_full (n : Nat) : cardN (2 ^ n - 1) n = n := by
  unfold cardN memN
  rw [List.filter_eq_self.2 fun a ha => by rw [testBit_full]; simpa using ha]
  simp
section
variable {n : Nat} {xs : List Int}
theorem top_ex (hp : tourP n xs) {S : Nat} (hS : S < 2 ^ n) (hc : clo xs S) (h0 : S ≠ 0) : ∃ b, b < n ∧ (topF xs n S).testBit b = true := by
  have hl := tour_len hp
  obtain ⟨a, ha⟩ := Nat.exists_testBit_of_ne_zero h0
  obtain ⟨b, hb, e⟩ := top_some hp (by rw [hl]; exact hS) hc _ a ha (Nat.le_refl _)
  have hbn := bit_lt hS hb
  exact ⟨b, hbn, by rw [testBit_topF]; simp [hbn, hb, e]⟩
theorem rest_n (hp : tourP n xs) {S : Nat} (hS : S < 2 ^ n) (hc : clo xs S) (h0 : S ≠ 0) : less S (topF xs n S) < S ∧ clo xs (less S (topF xs n S)) := by
  have hl := tour_len hp
  have h1 := rest_lt hp (by rw [hl]; exact hS) hc h0
  have h2 := rest_clo hp (by rw [hl]; exact hS) hc
  rw [hl] at h1 h2
  exact ⟨h1, h2⟩
theorem parts_step (hp : tourP n xs) {S : Nat} (hS : S < 2 ^ n) (hc : clo xs S) (h0 : S ≠ 0) : partsN xs S = topF xs n S :: partsN xs (less S (topF xs n S)) := by
  have := partsN_step hp (by rw [tour_len hp]; exact hS) hc h0
  rwa [tour_len hp] at this
theorem parts_card (hp : tourP n xs) : ∀ B S, S < B → S < 2 ^ n → clo xs S → (partsN xs S).length ≤ cardN S n ∧ ((partsN xs S).length = cardN S n → ∀ P ∈ partsN xs S, cardN P n = 1) := by
  intro B
  induction B with
  | zero => intro S h; omega
  | succ B ih =>
    intro S hB hS hc
    by_cases h0 : S = 0
    · subst h0; rw [partsN_zero]; simp
    · obtain ⟨h1, h2⟩ := rest_n hp hS hc h0
      obtain ⟨h3, h4⟩ := ih (less S (topF xs n S)) (by omega) (by omega) h2
      have h5 := card_split (top_sub xs n S) n
      obtain ⟨b, hb, hbt⟩ := top_ex hp hS hc h0
      have h6 := card_pos hb hbt
      rw [parts_step hp hS hc h0, List.length_cons]
      refine ⟨by omega, fun e P hP => ?_⟩
      rcases List.mem_cons.1 hP with rfl | hP
      · omega
      · exact h4 (by omega) P hP
/-- who is in the set is in a part, with all who reach the same -/
theorem parts_mem (hp : tourP n xs) : ∀ B S, S < B → S < 2 ^ n → clo xs S → ∀ c, S.testBit c = true → ∃ P ∈ partsN xs S, P.testBit c = true ∧ ∀ d, d < n → reachN xs d = reachN xs c → P.testBit d = true := by
  intro B
  induction B with
  | zero => intro S h; omega
  | succ B ih =>
    intro S hB hS hc c hcS
    have h0 : S ≠ 0 := fun e => by subst e; simp at hcS
    obtain ⟨h1, h2⟩ := rest_n hp hS hc h0
    rw [parts_step hp hS hc h0]
    by_cases ht : (topF xs n S).testBit c = true
    · refine ⟨_, by simp, ht, fun d hd e => ?_⟩
      rw [testBit_topF] at ht ⊢
      simp only [Bool.and_eq_true, decide_eq_true_eq, beq_iff_eq] at ht ⊢
      have hdd := (reach_facts hp (by rw [tour_len hp]; exact hd) (a := d)).1
      rw [e, ht.2.2] at hdd
      exact ⟨hd, hdd, by rw [e]; exact ht.2.2⟩
    · have hr : (less S (topF xs n S)).testBit c = true := by
        rw [testBit_less, hcS]
        simp only [Bool.not_eq_true] at ht
        rw [ht]; rfl
      obtain ⟨P, hP, h3⟩ := ih (less S (topF xs n S)) (by omega) (by omega) h2 c hr
      exact ⟨P, List.mem_cons_of_mem _ hP, h3⟩
def transP (xs : List Int) (n : Nat) : Prop := ∀ a b c, a < n → b < n → c < n → bt xs a b = true → bt xs b c = true → bt xs a c = true
theorem trans_reach (hp : tourP n xs) (ht : transP xs n) {a c : Nat} (ha : a < n) (h : (reachN xs a).testBit c = true) : c = a ∨ bt xs a c = true := by
  have hl := tour_len hp
  have hT : clo xs (winsN xs a ||| 2 ^ a) := fun b d hb hd => by
    rw [Nat.testBit_or, Nat.testBit_two_pow] at hb ⊢
    simp only [Bool.or_eq_true, decide_eq_true_eq] at hb ⊢
    have hbn : b < n := by
      rcases hb with h | h
      · exact bt_hi hp ha h
      · omega
    have hdn : d < n := bt_hi hp hbn hd
    rcases hb with h | rfl
    · exact .inl (ht a b d ha hbn hdn h hd)
    · exact .inl hd
  have := (reach_facts hp (by rw [hl]; exact ha) (a := a)).2.2.1 _ hT (by rw [Nat.testBit_or, Nat.testBit_two_pow]; simp) c h
  rw [Nat.testBit_or, Nat.testBit_two_pow] at this
  simp only [Bool.or_eq_true, decide_eq_true_eq] at this
  rcases this with h | h
  · exact .inr h
  · exact .inl h.symm
theorem trans_top (hp : tourP n xs) (ht : transP xs n) {S : Nat} (hS : S < 2 ^ n) (hc : clo xs S) (h0 : S ≠ 0) : cardN (topF xs n S) n = 1 := by
  obtain ⟨b, hb, hbt⟩ := top_ex hp hS hc h0
  have h1 := card_pos hb hbt
  have h2 : cardN (topF xs n S) n ≤ 1 := card_uniq fun c d hc' hd' h3 h4 => by
    rw [testBit_topF] at h3 h4
    simp only [Bool.and_eq_true, decide_eq_true_eq, beq_iff_eq] at h3 h4
    rcases trans_reach hp ht hc' (c := d) (by rw [h3.2.2]; exact h4.2.1) with e | e
    · exact e.symm
    · rcases trans_reach hp ht hd' (c := c) (by rw [h4.2.2]; exact h3.2.1) with e' | e'
      · exact e'
      · rw [(bt_asym hp hc' hd' e).1] at e'; cases e'
  omega
theorem trans_parts (hp : tourP n xs) (ht : transP xs n) : ∀ B S, S < B → S < 2 ^ n → clo xs S → (partsN xs S).length = cardN S n := by
  intro B
  induction B with
  | zero => intro S h; omega
  | succ B ih =>
    intro S hB hS hc
    by_cases h0 : S = 0
    · subst h0; rw [partsN_zero]; unfold cardN memN; rw [List.filter_eq_nil_iff.2 (by simp)]
    · obtain ⟨h1, h2⟩ := rest_n hp hS hc h0
      have h3 := ih (less S (topF xs n S)) (by omega) (by omega) h2
      have h5 := card_split (top_sub xs n S) n
      have h6 := trans_top hp ht hS hc h0
      rw [parts_step hp hS hc h0, List.length_cons]
      omega
theorem clo_all (hp : tourP n xs) : clo xs (2 ^ n - 1) := fun b c h hc => by
  rw [testBit_full, decide_eq_true_eq] at h ⊢
  exact bt_hi hp h hc
theorem reach_eq (hp : tourP n xs) {a b : Nat} (ha : a < n) (hb : b < n) (h1 : (reachN xs a).testBit b = true) (h2 : (reachN xs b).testBit a = true) : reachN xs a = reachN xs b := by
  have fa := reach_facts hp (by rw [tour_len hp]; exact ha) (a := a)
  have fb := reach_facts hp (by rw [tour_len hp]; exact hb) (a := b)
  exact sub_eq (fa.2.2.1 _ fb.2.1 h2) (fb.2.2.1 _ fa.2.1 h1)
theorem reach_step (hp : tourP n xs) {a b c : Nat} (ha : a < n) (h : (reachN xs a).testBit b = true) (hbc : bt xs b c = true) : (reachN xs a).testBit c = true :=
  (reach_facts hp (by rw [tour_len hp]; exact ha) (a := a)).2.1 b c h hbc
/-- as many parts as players: the tour is transitive -/
theorem trans_iff (hp : tourP n xs) : (partsN xs (2 ^ n - 1)).length = n ↔ transP xs n := by
  have hlt : 2 ^ n - 1 < 2 ^ n := by have := Nat.one_le_two_pow (n := n); omega
  constructor
  · intro e a b c ha hb hc hab hbc
    have hac : a ≠ c := fun e2 => by subst e2; rw [(bt_asym hp ha hb hab).1] at hbc; cases hbc
    rcases q : bt xs a c with _ | _
    · exfalso
      have hca := (bt_flip hp hc ha (Ne.symm hac)).2 q
      have raa := (reach_facts hp (by rw [tour_len hp]; exact ha) (a := a)).1
      have rbb := (reach_facts hp (by rw [tour_len hp]; exact hb) (a := b)).1
      have r1 := reach_step hp ha raa hab
      have r2 := reach_step hp hb (reach_step hp hb rbb hbc) hca
      have re := reach_eq hp ha hb r1 r2
      obtain ⟨P, hP, h1, h2⟩ := parts_mem hp _ _ (Nat.lt_succ_self _) hlt (clo_all hp) a (by rw [testBit_full]; simp [ha])
      have h3 := h2 b hb re.symm
      have h4 := (parts_card hp _ _ (Nat.lt_succ_self _) hlt (clo_all hp)).2 (by rw [e, card_full]) P hP
      have h5 := card_two ha hb h1 h3 (bt_asym hp ha hb hab).2
      omega
    · rfl
  · intro ht
    rw [trans_parts hp ht _ _ (Nat.lt_succ_self _) hlt (clo_all hp), card_full]
end
end Go.Proofs.YtbkiedhaacapbaaDoor

namespace Go.Proofs.YtbkiedhaacapbaaDoor
open Go.RowKit

/-- what is asked of element number j -/
def connAt (n : Int) (xs : List Int) (j : Nat) : Prop := (1 ≤ xs.getD j 0 ∧ xs.getD j 0 ≤ n - 1) ∧ (0 < j → xs.getD (j - 1) 0 < xs.getD j 0) ∧ n - xs.getD j 0 ∉ xs
def connP (n : Int) (xs : List Int) : Prop := (n = 1 ∨ n = 3 ∨ n = 5 ∨ n = 7) ∧ (∀ j, j < xs.length → connAt n xs j) ∧ (xs.length : Int) = n / 2
noncomputable def connB (n : Int) (xs : List Int) : Bool := @decide (connP n xs) (Classical.propDecidable _)
theorem connB_true {n : Int} {xs : List Int} (h : connP n xs) : connB n xs = true := by unfold connB; simp [h]
theorem connB_false {n : Int} {xs : List Int} (h : ¬ connP n xs) : connB n xs = false := by unfold connB; simp [h]

theorem conn_no {n : Int} {xs : List Int} {k : Nat} (hk : k < xs.length) (h : ¬ connAt n xs k) : connB n xs = false := connB_false fun hp => h (hp.2.1 k hk)
theorem conn_no1 {n : Int} {xs : List Int} {k l : Nat} (hl : xs.length = l) (hk : k < l) (hW : inB (xs[k]?.getD 0) 1 (n - 1) = false) : connB n xs = false :=
  conn_no (k := k) (by omega) fun h => by
    have := inB_false.1 hW
    rw [← List.getD_eq_getElem?_getD] at this
    exact this h.1
theorem conn_no2 {n : Int} {xs : List Int} {k l : Nat} (hl : xs.length = l) (hk : k < l) (h0 : 0 < k) (h : xs[k]?.getD 0 ≤ xs[k - 1]?.getD 0) : connB n xs = false :=
  conn_no (k := k) (by omega) fun hh => by
    have := hh.2.1 h0
    rw [List.getD_eq_getElem?_getD, List.getD_eq_getElem?_getD] at this
    omega
theorem conn_no3 {n : Int} {xs : List Int} {k l : Nat} (hl : xs.length = l) (hk : k < l) (hC : containsI xs (n - xs[k]?.getD 0) = true) : connB n xs = false :=
  conn_no (k := k) (by omega) fun hh => by
    have := hh.2.2
    rw [List.getD_eq_getElem?_getD] at this
    simp [containsI] at hC
    exact this hC
theorem conn_yes {n : Int} {xs : List Int} {k : Nat} (hW : inB (xs[k]?.getD 0) 1 (n - 1) = true) (hC : containsI xs (n - xs[k]?.getD 0) = false) (h : 0 < k → xs[k - 1]?.getD 0 < xs[k]?.getD 0)
    (HP : ∀ j, j < k → connAt n xs j) : ∀ j, j < k + 1 → connAt n xs j := by
  intro j hj
  by_cases hjk : j < k
  · exact HP j hjk
  · obtain rfl : j = k := by omega
    refine ⟨?_, ?_, ?_⟩
    · rw [List.getD_eq_getElem?_getD]; exact inB_true.1 hW
    · rw [List.getD_eq_getElem?_getD, List.getD_eq_getElem?_getD]; exact h
    · rw [List.getD_eq_getElem?_getD]; simpa [containsI] using hC

set_option maxHeartbeats 1000000 in
theorem implIsConnection (n : Int) (v : Value) (xs : List Int) (w : World) (h : Rd w v xs) :
    Calls Tryd.prog 14 #[.int .i64 n, v] w fun e w' => e = .returned (.bool (connB n xs)) ∧ w = w' := by
  have HR := Lib.hid h
  obtain ⟨A, c, rfl, hl1, hm1, hc1⟩ := h
  unfold maxLen at hm1
  generalize hn : xs.length = l at *
  have H1 := Lib.hid hn
  have H3 := Lib.hid hc1
  clear hn hc1
  by_cases hN : n = 1 ∨ n = 3 ∨ n = 5 ∨ n = 7
  · have hlo : 1 ≤ n := by omega
    have hhi : n ≤ 7 := by omega
    have HN := Lib.hid hN
    clear hN
    have HB : Hid ((n != 1 && n != 3 && n != 5 && n != 7) = false) := by unfold Hid; rcases HN.out with h | h | h | h <;> subst h <;> rfl
    go_enter Tryd.func14, Tryd.ntmps14
    go_upto_region 1 with fail
    go_cut [20] (fun s20 wx => s20 = .bool false ∧ wx = w)
    case first =>
      rcases HN.out with h | h | h | h
      · have b1 : (n != 1) = false := by subst h; rfl
        clear h
        go_wp2_with fail
        go_meet
        case rel => exact ⟨rfl, rfl⟩
      · have b1 : (n != 1) = true := by subst h; rfl
        have b2 : (n != 3) = false := by subst h; rfl
        clear h
        go_wp2_with fail
        go_meet
        case rel => exact ⟨rfl, rfl⟩
      · have b1 : (n != 1) = true := by subst h; rfl
        have b2 : (n != 3) = true := by subst h; rfl
        have b3 : (n != 5) = false := by subst h; rfl
        clear h
        go_wp2_with fail
        go_meet
        case rel => exact ⟨rfl, rfl⟩
      · have b1 : (n != 1) = true := by subst h; rfl
        have b2 : (n != 3) = true := by subst h; rfl
        have b3 : (n != 5) = true := by subst h; rfl
        have b4 : (n != 7) = false := by subst h; rfl
        clear h
        go_wp2_with fail
        go_meet
        case rel => exact ⟨rfl, rfl⟩
    case rest =>
      obtain ⟨rfl, rfl⟩ := hcut
      go_wp2
      go_loop [23] (fun i => ∃ k : Nat, k ≤ l ∧ i = .int .i64 k ∧ Hid (∀ j, j < k → connAt n xs j)) (fun i => l - (intOf i).toNat)
      case atStart => exact ⟨0, Nat.zero_le _, rfl, fun j hj => absurd hj (by omega)⟩
      case round =>
        obtain ⟨k, hk, rfl, HP⟩ := hrel
        by_cases hlt : k < l
        · obtain ⟨b, off, rfl, hb, hx⟩ := H3.out (by omega)
          have hxk := hx k hlt
          have HX := Lib.hid hx
          clear hx
          rcases hW : inB (xs[k]?.getD 0) 1 (n - 1) with _ | _
          · go_wp2_with (first | (go_at_call 47; refine (within_any _ _ _ _).mono ?_; rintro e w1 ⟨rfl, rfl⟩) | (go_at_call 52; refine (contains_any _ _ _ _ HR.out).mono ?_; rintro e w1 ⟨rfl, rfl⟩))
            go_ret
            exact ⟨ret_bool (conn_no1 H1.out hlt hW).symm, rfl⟩
          · have hw := inB_true.1 hW
            rcases hC : containsI xs (n - xs[k]?.getD 0) with _ | _
            all_goals
              by_cases hk0 : k = 0
              · subst hk0
                simp only [Nat.add_zero] at hxk
                go_wp2_with (first | (go_at_call 47; refine (within_any _ _ _ _).mono ?_; rintro e w1 ⟨rfl, rfl⟩) | (go_at_call 52; refine (contains_any _ _ _ _ HR.out).mono ?_; rintro e w1 ⟨rfl, rfl⟩))
                first
                  | (go_ret; exact ⟨ret_bool (conn_no3 H1.out hlt hC).symm, rfl⟩)
                  | (go_round
                     case rel => exact ⟨1, by omega, by go_num, conn_yes hW hC (fun h => absurd h (by omega)) HP.out⟩
                     case measure => simp [intOf]; omega)
              · have hxp := HX.out (k - 1) (by omega)
                have hgt : decide ((0 : Int) < (k : Int)) = true := by simp; omega
                go_wp2_with (first | (go_at_call 47; refine (within_any _ _ _ _).mono ?_; rintro e w1 ⟨rfl, rfl⟩) | (go_at_call 52; refine (contains_any _ _ _ _ HR.out).mono ?_; rintro e w1 ⟨rfl, rfl⟩))
                all_goals first
                  | (go_ret; exact ⟨ret_bool (conn_no3 H1.out hlt hC).symm, rfl⟩)
                  | (have hle : xs[k]?.getD 0 ≤ xs[k - 1]?.getD 0 := by assumption
                     go_ret; exact ⟨ret_bool (conn_no2 H1.out hlt (by omega) hle).symm, rfl⟩)
                  | (have hlt' : xs[k - 1]?.getD 0 < xs[k]?.getD 0 := by assumption
                     go_round
                     case rel => exact ⟨k + 1, by omega, by go_num, conn_yes hW hC (fun h => hlt') HP.out⟩
                     case measure => simp [intOf]; omega)
        · obtain rfl : k = l := by omega
          go_wp2
          go_ret
          refine ⟨ret_bool ?_, rfl⟩
          have h1 := H1.out
          by_cases hf : (k : Int) = n / 2
          · rw [connB_true ⟨HN.out, by rw [h1]; exact HP.out, by rw [h1]; exact hf⟩]
            simpa using hf
          · rw [connB_false (fun hp => hf (by rw [← h1]; exact hp.2.2))]
            simpa using hf
  · have b1 : (n != 1) = true := by simp; omega
    have b2 : (n != 3) = true := by simp; omega
    have b3 : (n != 5) = true := by simp; omega
    have b4 : (n != 7) = true := by simp; omega
    have HN := Lib.hid hN
    clear hN
    go_enter Tryd.func14, Tryd.ntmps14
    go_wp2
    go_ret
    exact ⟨ret_bool (connB_false fun hp => HN.out hp.1).symm, rfl⟩
end Go.Proofs.YtbkiedhaacapbaaDoor

