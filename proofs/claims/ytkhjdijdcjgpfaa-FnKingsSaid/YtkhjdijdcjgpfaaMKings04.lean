/- Texts put together: KgC, SortI, Cond, DomC, Idx, SovC, TrF, TOf, Dfs, Conn, Conn2, Rot, PtC, Lev, Parts, Revs. -/
import Derived.Test.YtkhjdijdcjgpfaaMKings03
import Derived.Test.YtkhjdijdcjgpfaaMKings01
import Derived.Test.YtkhjdijdcjgpfaaMKings02
import Derived.Deep.RegionLaw
import Derived.Maps.AppendAt
import Derived.Deep.RegionHeld3
import Derived.Deep.DeepCutAuto
namespace Go.Proofs.Ytkhjdijdcjgpfaa
open Go.RowKit Go.Sort
set_option maxRecDepth 100000
theorem kgS_step (xs : List Int) (k : Nat) : kgS xs (k + 1) = kgS xs k + if kingN xs k = true then 2 ^ k else 0 := rfl
set_option maxHeartbeats 2000000 in
theorem kings_any (n : Nat) (sl : Value) (xs : List Int) (w : World) (h : Rd w sl xs) (hp : tourP n xs) :
    Calls Try.prog 61 #[.agg #[.int .i64 n, sl]] w fun e w' => e = .returned (.int .i64 (kgS xs n : Nat)) ∧ Below w.heap.size w w' := by
  have HR := Lib.hid h
  have HP := Lib.hid hp
  have hs := hp.1
  have hln := tour_len hp
  have HLN := Lib.hid hln
  obtain ⟨A, c, rfl, -, hcm, -⟩ := h
  unfold maxLen at hcm
  rw [hln] at HR ⊢
  clear hln hp
  go_enter Try.func61, Try.ntmps61
  go_wp2_with fail
  have b0 := below_alloc1 w (.cells #[.int .i64 n, .slice A n c] 25)
  have x0 := TBox.new w n (.slice A n c) 25
  generalize w.alloc (.cells #[.int .i64 n, .slice A n c] 25) = w0 at *
  have HX0 := Lib.hid x0
  have HB0 := Lib.hid b0
  clear x0 b0
  have y0_0 := HX0.out.1
  have y1_0 := HX0.out.2
  go_wp2
  go_loopw [3, 7] (fun v i wr => ∃ (a : Nat), a ≤ n ∧ i = .int .i64 a ∧ v = .int .i64 (kgS xs a : Nat) ∧ Hid (TBox wr w.heap.size n (.slice A n c)) ∧ Hid (Below w.heap.size w wr)) (fun _ i _ => n - (intOf i).toNat)
  case atStart => exact ⟨0, by omega, rfl, rfl, HX0, HB0⟩
  case round =>
    obtain ⟨a, ha, rfl, rfl, HX, HBa⟩ := hrel
    clear HX0 HB0 y0_0 y1_0
    by_cases hlt : a < n
    · have y0 := HX.out.1
      have y1 := HX.out.2
      have HST := Lib.hid (kgS_step xs a)
      have HLT : Hid (kgS xs a < 2 ^ a) := kg_lt
      go_wp2_with fail
      refine (isKing_any n (.slice A n c) xs a _ (HR.out.below HBa.out) HP.out (by have := HLN.out; omega)).mono ?_
      rintro e w5 ⟨rfl, hb5⟩
      have HX5 := Lib.hid (HX.out.below hb5)
      have HB5 := Lib.hid (Below.then HBa.out hb5)
      clear hb5 HX HBa y0 y1
      rcases q : kingN xs a with _ | _
      · rw [q, if_neg (by decide), Nat.add_zero] at HST
        go_wp2
        go_roundw
        case rel => exact ⟨a + 1, by omega, by go_num, congrArg (fun z : Nat => Value.int .i64 (z : Int)) HST.out.symm, HX5, HB5⟩
        case measure => simp [intOf]; omega
      · rw [q, if_pos rfl] at HST
        have h256 : 2 ^ a ≤ 256 := Nat.pow_le_pow_right (n := 2) (j := 8) (by decide) (by omega)
        have HOR : Hid (kgS xs a ||| 2 ^ a = kgS xs (a + 1)) := Lib.hid (by
          have := Nat.two_pow_add_eq_or_of_lt HLT.out 1
          rw [Nat.mul_one] at this
          rw [HST.out, Nat.or_comm, ← this, Nat.add_comm])
        have hor := or_shl (kgS xs a) a (by have := HLT.out; omega) (by omega)
        clear HST h256
        generalize kgS xs a = S at *
        go_wp2
        go_roundw
        case rel => exact ⟨a + 1, by omega, by go_num, congrArg (fun z : Nat => Value.int .i64 (z : Int)) HOR.out, HX5, HB5⟩
        case measure => simp [intOf]; omega
    · obtain rfl : n = a := by omega
      go_wp2
      go_ret
      exact ⟨rfl, HBa.out⟩
set_option maxHeartbeats 1000000 in
theorem cKings (n : Nat) (sl : Value) (xs : List Int) (w : World) (h : Rd w sl xs) (hp : tourP n xs) :
    Calls Try.prog 9 #[.agg #[.int .i64 n, sl]] w fun e w' => e = .returned (.int .i64 (kgS xs n : Nat)) ∧ Below w.heap.size w w' := by
  have HR := Lib.hid h
  have HP := Lib.hid hp
  have q0 : tourB n xs = true := tourB_true.2 hp
  have hln := tour_len hp
  obtain ⟨A, c, rfl, -, hcm, -⟩ := h
  unfold maxLen at hcm
  rw [hln] at HR ⊢
  clear hp hln
  go_enter Try.func9, Try.ntmps9
  go_wp2_with fail
  have b0 := below_alloc1 w (.cells #[.int .i64 n, .slice A n c] 25)
  have x0 := TBox.new w n (.slice A n c) 25
  generalize w.alloc (.cells #[.int .i64 n, .slice A n c] 25) = w0 at *
  have HX0 := Lib.hid x0
  have HB0 := Lib.hid b0
  clear x0 b0
  have y0_0 := HX0.out.1
  have y1_0 := HX0.out.2
  go_wp2_with fail
  refine (implTourOk n _ xs _ (HR.out.below HB0.out)).mono ?_
  rintro e w1 ⟨rfl, hb⟩
  have HX1 := Lib.hid (HX0.out.below hb)
  have HB1 := Lib.hid (Below.then HB0.out hb)
  clear hb HX0 HB0 y0_0 y1_0
  have y0_1 := HX1.out.1
  have y1_1 := HX1.out.2
  rw [q0]
  go_wp2_with fail
  refine (kings_any n (.slice A n c) xs _ (HR.out.below HB1.out) HP.out).mono ?_
  rintro e w5 ⟨rfl, hb5⟩
  have HB5 := Lib.hid (Below.then HB1.out hb5)
  clear hb5
  go_wp2
  go_ret
  exact ⟨rfl, HB5.out⟩
end Go.Proofs.Ytkhjdijdcjgpfaa

namespace Go.Proofs.Ytkhjdijdcjgpfaa
open Go.RowKit Go.Sort
set_option maxRecDepth 100000

/-- from the right: how far x goes -/
def posR (bef : Int → Int → Bool) (x : Int) (S : List Int) : Nat → Nat
  | 0 => 0
  | k + 1 => if bef x (S.getD k 0) = true then posR bef x S k else k + 1
def insR (bef : Int → Int → Bool) (S : List Int) (x : Int) : List Int := S.take (posR bef x S S.length) ++ x :: S.drop (posR bef x S S.length)
def sortR (bef : Int → Int → Bool) (L : List Int) : List Int := L.foldl (insR bef) []
theorem posR_le (bef : Int → Int → Bool) (x : Int) (S : List Int) (k : Nat) : posR bef x S k ≤ k := by
  induction k with
  | zero => exact Nat.le_refl _
  | succ k ih =>
    simp only [posR]
    split <;> omega
theorem posR_go {bef : Int → Int → Bool} {x : Int} {S : List Int} {k : Nat} (h : bef x (S.getD k 0) = true) : posR bef x S (k + 1) = posR bef x S k := by simp only [posR, h, if_true]
theorem posR_stop {bef : Int → Int → Bool} {x : Int} {S : List Int} {k : Nat} (h : bef x (S.getD k 0) = false) : posR bef x S (k + 1) = k + 1 := by simp only [posR, h]; rfl
theorem insR_len (bef : Int → Int → Bool) (S : List Int) (x : Int) : (insR bef S x).length = S.length + 1 := by
  have := posR_le bef x S S.length
  unfold insR
  simp; omega
theorem sortR_succ (bef : Int → Int → Bool) (L : List Int) {i : Nat} (h : i < L.length) : sortR bef (L.take (i + 1)) = insR bef (sortR bef (L.take i)) (L.getD i 0) := by
  unfold sortR
  rw [List.take_succ_eq_append_getElem h, List.foldl_append, show L.getD i 0 = L[i] by simp [h]]
  rfl
theorem sortR_len (bef : Int → Int → Bool) (L : List Int) {i : Nat} (h : i ≤ L.length) : (sortR bef (L.take i)).length = i := by
  induction i with
  | zero => rfl
  | succ i ih => rw [sortR_succ bef L (by omega), insR_len, ih (by omega)]
/-- the row while x is on its way: it stands at j -/
def midR (S : List Int) (x : Int) (rest : List Int) (j : Nat) : List Int := S.take j ++ x :: S.drop j ++ rest
theorem midR_len (S : List Int) (x : Int) (rest : List Int) (j : Nat) (h : j ≤ S.length) : (midR S x rest j).length = S.length + 1 + rest.length := by
  unfold midR; simp; omega
theorem midR_at (S : List Int) (x : Int) (rest : List Int) (j : Nat) (h : j ≤ S.length) : (midR S x rest j).getD j 0 = x := by
  unfold midR
  have hl : (S.take j).length = j := by rw [List.length_take]; omega
  rw [List.append_assoc, List.getD_eq_getElem?_getD, List.getElem?_append_right (by omega), hl, Nat.sub_self]
  rfl
theorem midR_prev (S : List Int) (x : Int) (rest : List Int) (j : Nat) (h : j + 1 ≤ S.length) : (midR S x rest (j + 1)).getD j 0 = S.getD j 0 := by
  unfold midR
  have hl : (S.take (j + 1)).length = j + 1 := by rw [List.length_take]; omega
  rw [List.append_assoc, List.getD_eq_getElem?_getD, List.getElem?_append_left (by omega), List.getElem?_take, if_pos (by omega), ← List.getD_eq_getElem?_getD]
theorem midR_swap (S : List Int) (x : Int) (rest : List Int) (j : Nat) (h : j + 1 ≤ S.length) : ((midR S x rest (j + 1)).set (j + 1) (S.getD j 0)).set j x = midR S x rest j := by
  have e1 : S.take (j + 1) = S.take j ++ [S.getD j 0] := by
    rw [List.take_succ_eq_append_getElem (by omega), show S.getD j 0 = S[j] by simp [show j < S.length by omega]]
  have e2 : S.drop j = S.getD j 0 :: S.drop (j + 1) := by
    rw [List.drop_eq_getElem_cons (by omega : j < S.length), show S.getD j 0 = S[j] by simp [show j < S.length by omega]]
  have hlj : (S.take j).length = j := by rw [List.length_take]; omega
  unfold midR
  rw [e1, e2]
  generalize S.getD j 0 = y
  generalize S.take j = P at *
  simp only [List.append_assoc, List.cons_append, List.nil_append]
  rw [List.set_append_right _ _ (by omega), hlj, show j + 1 - j = 1 by omega, List.set_cons_succ, List.set_cons_zero, List.set_append_right _ _ (by omega), hlj, Nat.sub_self, List.set_cons_zero]
theorem midR_start (S : List Int) (x : Int) (rest : List Int) : midR S x rest S.length = S ++ x :: rest := by
  unfold midR; simp
theorem midR_end (bef : Int → Int → Bool) (S : List Int) (x : Int) (rest : List Int) (j : Nat) (h : posR bef x S S.length = j) : midR S x rest j = insR bef S x ++ rest := by
  unfold midR insR; rw [h]
theorem mem_insR {bef : Int → Int → Bool} {S : List Int} {x y : Int} (h : y ∈ insR bef S x) : y = x ∨ y ∈ S := by
  unfold insR at h
  rw [List.mem_append, List.mem_cons] at h
  rcases h with h | h | h
  · exact .inr (List.mem_of_mem_take h)
  · exact .inl h
  · exact .inr (List.mem_of_mem_drop h)
theorem mem_sortR {bef : Int → Int → Bool} {L : List Int} {y : Int} {i : Nat} (hi : i ≤ L.length) (h : y ∈ sortR bef (L.take i)) : y ∈ L := by
  induction i with
  | zero => simp [sortR] at h
  | succ i ih =>
    rw [sortR_succ bef L (by omega)] at h
    rcases mem_insR h with rfl | h
    · rw [show L.getD i 0 = L[i] by simp [show i < L.length by omega]]; exact List.getElem_mem _
    · exact ih (by omega) h
theorem drop_eq' {L : List Int} {k : Nat} (h : k < L.length) : L.drop k = L.getD k 0 :: L.drop (k + 1) := by
  rw [List.drop_eq_getElem_cons h, show L.getD k 0 = L[k] by simp [h]]
theorem getD_memI {L : List Int} {i : Nat} (h : i < L.length) : L.getD i 0 ∈ L := by
  rw [show L.getD i 0 = L[i] by simp [h]]; exact List.getElem_mem h
theorem sortR_one (bef : Int → Int → Bool) (L : List Int) (h : 1 ≤ L.length) : sortR bef (L.take 1) ++ L.drop 1 = L := by
  cases L with
  | nil => simp at h
  | cons x L => simp [sortR, insR, posR]
set_option maxHeartbeats 4000000 in
theorem insSort_any (F : FuncId) (caps : Array Value) (hE : Enters F) (cf : Int → Int → Int) (L : List Int) (n base g c : Nat) (w : World) (hl : L.length = n) (hn : n ≤ 40) (hc : c ≤ 4611686018427387904) (hnc : n ≤ c) (h1 : 1 ≤ n) (hbase : base ≤ w.heap.size)
    (h : Own w base (.slice (some ⟨g, 0, none⟩) n c) L)
    (hf : ∀ x ∈ L, ∀ y ∈ L, ∀ w', Below base w w' → Calls Try.prog F (#[.int .i64 x, .int .i64 y] ++ caps) w' fun e w'' => e = .returned (.int .i64 (cf x y)) ∧ Below w'.heap.size w' w'') :
    Calls Try.prog 142 #[.slice (some ⟨g, 0, none⟩) n c, .int .i64 0, .int .i64 n, .func (.func F) #[] caps] w fun e w' => e = .returned (.tuple #[]) ∧ Own w' base (.slice (some ⟨g, 0, none⟩) n c) (sortR (fun x y => decide (cf x y < 0)) L) ∧ Below base w w' := by
  have HF := Lib.hid hf
  clear hf
  have hE' : ∀ (args : Array Value) (W : World), (callFunc F args).run Try.prog W = .ok (.enter F args) W := hE
  have hg := (h.lt g rfl)
  have HO0 := Lib.hid h
  have HL := Lib.hid hl
  clear h hl
  generalize hbef : (fun x y => decide (cf x y < 0)) = bef at *
  have HBEF : Hid (∀ x y, bef x y = decide (cf x y < 0)) := fun x y => by rw [← hbef]
  clear hbef
  go_enter Try.func142, Try.ntmps142
  go_wp2
  go_loopw [8] (fun i wr => ∃ k : Nat, 1 ≤ k ∧ k ≤ n ∧ i = .int .i64 k ∧ Own wr base (.slice (some ⟨g, 0, none⟩) n c) (sortR bef (L.take k) ++ L.drop k) ∧ Below base w wr) (fun i _ => n - (intOf i).toNat)
  case atStart => exact ⟨1, by omega, h1, by go_num, by rw [sortR_one bef L (by rw [HL.out]; exact h1)]; exact HO0.out, (Below.refl _ _).mono hbase⟩
  case round =>
    obtain ⟨wo, rfl⟩ : ∃ x, x = wr := ⟨_, rfl⟩
    obtain ⟨k, hk1, hk, rfl, ho, hb⟩ := hrel
    have HO := Lib.hid ho
    have HB := Lib.hid hb
    clear ho hb
    by_cases hlt : k < n
    · go_wp2
      go_loopw [9] (fun i wr => ∃ j : Nat, j ≤ k ∧ i = .int .i64 j ∧ Own wr base (.slice (some ⟨g, 0, none⟩) n c) (midR (sortR bef (L.take k)) (L.getD k 0) (L.drop (k + 1)) j) ∧ Hid (posR bef (L.getD k 0) (sortR bef (L.take k)) k = posR bef (L.getD k 0) (sortR bef (L.take k)) j) ∧ Below base w wr) (fun i _ => (intOf i).toNat)
      case atStart => exact ⟨k, by omega, rfl, by
        have e := midR_start (sortR bef (L.take k)) (L.getD k 0) (L.drop (k + 1))
        rw [sortR_len bef L (by rw [HL.out]; omega)] at e
        rw [e, ← drop_eq' (by rw [HL.out]; exact hlt)]; exact HO.out, rfl, HB.out⟩
      case round =>
        obtain ⟨j, hj, rfl, ho, HP, hb⟩ := hrel
        have HOj := Lib.hid ho
        have HBj := Lib.hid hb
        have hSl := sortR_len bef L (i := k) (by rw [HL.out]; omega)
        have HMA := Lib.hid (midR_at (sortR bef (L.take k)) (L.getD k 0) (L.drop (k + 1)) j (by omega))
        have HML := Lib.hid (midR_len (sortR bef (L.take k)) (L.getD k 0) (L.drop (k + 1)) j (by omega))
        clear ho hb
        rcases Nat.eq_zero_or_pos j with rfl | hj0
        · go_wp2_with fail
          refine wp_region_below (by kernel_rfl) (by kernel_rfl) ?_
          repeat (go_big_quiet_step (first | (with_reducible fail)))
          refine wpQuiet_nil ?_
          intro wq hbq0
          have HBQ := Lib.hid hbq0
          clear hbq0
          have hpos : posR bef (L.getD k 0) (sortR bef (L.take k)) (sortR bef (L.take k)).length = 0 := by rw [hSl]; exact HP.out
          have HFIN := Lib.hid (midR_end bef (sortR bef (L.take k)) (L.getD k 0) (L.drop (k + 1)) 0 hpos)
          have HSU := Lib.hid (sortR_succ bef L (show k < L.length by rw [HL.out]; exact hlt))
          clear hpos
          go_wp2
          go_roundw
          case rel => exact ⟨k + 1, by omega, by omega, by go_num, by rw [HSU.out, ← HFIN.out]; exact HOj.out.below HBQ.out, HBj.out.trans (HBQ.out.mono (Nat.le_trans hbase HBj.out.size))⟩
          case measure => simp [intOf]; omega
        · obtain ⟨j, rfl⟩ : ∃ i, j = i + 1 := ⟨j - 1, by omega⟩
          have hx : L.getD k 0 ∈ L := getD_memI (by rw [HL.out]; exact hlt)
          have hy : (sortR bef (L.take k)).getD j 0 ∈ L := mem_sortR (i := k) (by rw [HL.out]; omega) (getD_memI (by omega))
          have HPR := Lib.hid (midR_prev (sortR bef (L.take k)) (L.getD k 0) (L.drop (k + 1)) j (by omega))
          have HSW := Lib.hid (midR_swap (sortR bef (L.take k)) (L.getD k 0) (L.drop (k + 1)) j (by omega))
          have HGO := Lib.hid (fun h => posR_go (bef := bef) (x := L.getD k 0) (S := sortR bef (L.take k)) (k := j) h)
          have HST := Lib.hid (fun h => posR_stop (bef := bef) (x := L.getD k 0) (S := sortR bef (L.take k)) (k := j) h)
          have HEND := Lib.hid (fun h => midR_end bef (sortR bef (L.take k)) (L.getD k 0) (L.drop (k + 1)) (j + 1) h)
          have HSU := Lib.hid (sortR_succ bef L (show k < L.length by rw [HL.out]; exact hlt))
          have HBF := Lib.hid (HBEF.out (L.getD k 0) ((sortR bef (L.take k)).getD j 0))
          have hlr : (L.drop (k + 1)).length = n - (k + 1) := by rw [List.length_drop, HL.out]
          rw [hSl, hlr] at HML
          have hlM : (midR (sortR bef (L.take k)) (L.getD k 0) (L.drop (k + 1)) (j + 1)).length = n := by rw [HML.out]; omega
          obtain ⟨hxc, hfz⟩ := HOj.out.at1 hlM (by omega)
          have z1 := hxc (j + 1) (by omega)
          have z0 := hxc j (by omega)
          rw [HMA.out] at z1
          rw [HPR.out] at z0
          have k1 := quiet_below (w := wr) (fun W hW => HF.out _ hx _ hy W (HBj.out.trans (hW.mono (Nat.le_trans hbase HBj.out.size))))
          rw [hSl] at HEND
          clear hx hy hxc hfz hlr
          generalize hS : sortR bef (L.take k) = S at *
          generalize hX : L.getD k 0 = x at *
          generalize hR : L.drop (k + 1) = rest at *
          generalize hY : S.getD j 0 = y at *
          have hk1 := k1 0 #[]
          rcases hq : bef x y with _ | _
          · have hr : ¬ cf x y < 0 := by rw [HBF.out] at hq; exact of_decide_eq_false hq
            generalize cf x y = r at *
            go_wp2_with fail
            have c1 := cell_regrown z1
            have c0 := cell_regrown z0
            clear z0 z1
            refine wp_region_below (by kernel_rfl) (by kernel_rfl) ?_
            repeat (go_big_quiet_step (first | (with_reducible exact k1 _ _)))
            refine wpQuiet_nil ?_
            intro wq hbq0
            have HBQ := Lib.hid hbq0
            clear hbq0 c0 c1 k1 hk1
            have HFIN := Lib.hid (HEND.out (by rw [HP.out]; exact HST.out hq))
            go_wp2
            go_roundw
            case rel => exact ⟨k + 1, by omega, by omega, by go_num, by rw [HSU.out, hR, ← HFIN.out]; exact HOj.out.below HBQ.out, HBj.out.trans (HBQ.out.mono (Nat.le_trans hbase HBj.out.size))⟩
            case measure => simp [intOf]; omega
          · have hr : cf x y < 0 := by rw [HBF.out] at hq; exact of_decide_eq_true hq
            generalize cf x y = r at *
            go_wp2_with fail
            have c1 := cell_regrown z1
            have c0 := cell_regrown z0
            clear z0 z1
            refine wp_region_below (by kernel_rfl) (by kernel_rfl) ?_
            repeat (go_big_quiet_step (first | (with_reducible exact k1 _ _)))
            refine wpQuiet_nil ?_
            intro wq hbq0
            have HBQ := Lib.hid hbq0
            clear hbq0 c0 c1 k1 hk1
            have O2 := HOj.out.below HBQ.out
            have HB2 := Lib.hid (HBj.out.trans (HBQ.out.mono (Nat.le_trans hbase HBj.out.size)))
            obtain ⟨hxc, hfz⟩ := O2.at1 hlM (by omega)
            have z1 := hxc (j + 1) (by omega)
            have z0 := hxc j (by omega)
            rw [HMA.out] at z1
            rw [HPR.out] at z0
            have f1 := hfz (j + 1)
            have f0 := hfz j
            have O3 := (O2.set_ hlM (j + 1) y).1
            have hlM2 : ((midR S x rest (j + 1)).set (j + 1) y).length = n := by rw [List.length_set]; exact hlM
            have O4 := Lib.hid (O3.set_ hlM2 j x).1
            rw [HSW.out] at O4
            have HB4 := Lib.hid ((HB2.out.setCell (p := ⟨g, j + 1, none⟩) hg.1 (.int .i64 y)).setCell (p := ⟨g, j, none⟩) hg.1 (.int .i64 x))
            have HPN := HGO.out hq
            clear O2 O3 hxc hfz
            go_wp2_with fail
            have hwj : IntKind.i64.wrap ((j : Nat) : Int) = (j : Int) := by rw [IntWalk.i64_left]; exact wrap64_nat j (by omega)
            have hjn : j < n := by omega
            have hjn1 : j + 1 < n := by omega
            have hjn2 : (j : Int) + 1 < (n : Int) := by omega
            have hjn3 : (0 : Int) ≤ (j : Int) + 1 := by omega
            go_region_law (fail)
            all_goals
              have HO5 : Hid (Own ((wq.setCell ⟨g, j + 1, none⟩ (.int .i64 y)).setCell ⟨g, j, none⟩ (.int .i64 x)).drew base (.slice (some ⟨g, 0, none⟩) n c) (midR S x rest j)) := O4.out
              have HB5 : Hid (Below base w ((wq.setCell ⟨g, j + 1, none⟩ (.int .i64 y)).setCell ⟨g, j, none⟩ (.int .i64 x)).drew) := ⟨HB4.out.os, HB4.out.tape, HB4.out.output, HB4.out.size, HB4.out.block⟩
              have HPJ : Hid (posR bef x S k = posR bef x S j) := HP.out.trans HPN
              clear z1 z0 f1 f0 hwj hjn hjn1 hjn2 hjn3
              generalize ((wq.setCell ⟨g, j + 1, none⟩ (.int .i64 y)).setCell ⟨g, j, none⟩ (.int .i64 x)).drew = w9 at HO5 HB5 ⊢
              go_wp2
              go_roundw
              case rel => exact ⟨j, by omega, by go_num, HO5.out, HPJ.out, HB5.out⟩
              case measure => simp [intOf]
    · obtain rfl : n = k := by omega
      have e1 : L.take n = L := List.take_of_length_le (by rw [HL.out]; exact Nat.le_refl _)
      have e2 : L.drop n = [] := List.drop_eq_nil_of_le (by rw [HL.out]; exact Nat.le_refl _)
      rw [e1, e2, List.append_nil] at HO
      go_wp2
      go_end0
      exact ⟨rfl, HO.out, HB.out⟩
set_option maxHeartbeats 2000000 in
theorem stable_any (F : FuncId) (caps : Array Value) (hE : Enters F) (cf : Int → Int → Int) (L : List Int) (n base g c : Nat) (w : World) (hl : L.length = n) (hn : n < 20) (hc : c ≤ 4611686018427387904) (hnc : n ≤ c) (h1 : 1 ≤ n) (hbase : base ≤ w.heap.size)
    (h : Own w base (.slice (some ⟨g, 0, none⟩) n c) L)
    (hf : ∀ x ∈ L, ∀ y ∈ L, ∀ w', Below base w w' → Calls Try.prog F (#[.int .i64 x, .int .i64 y] ++ caps) w' fun e w'' => e = .returned (.int .i64 (cf x y)) ∧ Below w'.heap.size w' w'') :
    Calls Try.prog 141 #[.slice (some ⟨g, 0, none⟩) n c, .int .i64 n, .func (.func F) #[] caps] w fun e w' => e = .returned (.tuple #[]) ∧ Own w' base (.slice (some ⟨g, 0, none⟩) n c) (sortR (fun x y => decide (cf x y < 0)) L) ∧ Below base w w' := by
  have HI := Lib.hid (insSort_any F caps hE cf L n base g c w hl (by omega) hc hnc h1 hbase h hf)
  clear h hf
  go_enter Try.func141, Try.ntmps141
  go_wp2
  go_loopw [7, 8] (fun a b wr => a = .int .i64 0 ∧ b = .int .i64 20 ∧ wr = w) (fun _ _ _ => 0)
  case atStart => exact ⟨rfl, rfl, rfl⟩
  case round =>
    obtain ⟨rfl, rfl, rfl⟩ := hrel
    go_wp2_with fail
    refine HI.out.mono ?_
    rintro e w1 ⟨rfl, ho, hb⟩
    have HO := Lib.hid ho
    have HB := Lib.hid hb
    clear ho hb
    go_wp2
    go_loopw [6] (fun i wr => i = .int .i64 20 ∧ wr = w1) (fun _ _ => 0)
    case atStart => exact ⟨rfl, rfl⟩
    case round =>
      obtain ⟨rfl, rfl⟩ := hrel
      go_wp2
      go_end0
      exact ⟨rfl, HO.out, HB.out⟩
theorem sortStable_any (F : FuncId) (caps : Array Value) (hE : Enters F) (cf : Int → Int → Int) (L : List Int) (n base g c : Nat) (w : World) (hl : L.length = n) (hn : n < 20) (hc : c ≤ 4611686018427387904) (hnc : n ≤ c) (h1 : 1 ≤ n) (hbase : base ≤ w.heap.size)
    (h : Own w base (.slice (some ⟨g, 0, none⟩) n c) L)
    (hf : ∀ x ∈ L, ∀ y ∈ L, ∀ w', Below base w w' → Calls Try.prog F (#[.int .i64 x, .int .i64 y] ++ caps) w' fun e w'' => e = .returned (.int .i64 (cf x y)) ∧ Below w'.heap.size w' w'') :
    Calls Try.prog 135 #[.slice (some ⟨g, 0, none⟩) n c, .func (.func F) #[] caps] w fun e w' => e = .returned (.tuple #[]) ∧ Own w' base (.slice (some ⟨g, 0, none⟩) n c) (sortR (fun x y => decide (cf x y < 0)) L) ∧ Below base w w' := by
  have HI := Lib.hid (stable_any F caps hE cf L n base g c w hl hn hc hnc h1 hbase h hf)
  clear h hf
  go_enter Try.func135, Try.ntmps135
  go_wp2_with fail
  refine HI.out.mono ?_
  rintro e w1 ⟨rfl, ho, hb⟩
  have HO := Lib.hid ho
  have HB := Lib.hid hb
  clear ho hb
  go_wp2
  go_end0
  exact ⟨rfl, HO.out, HB.out⟩
end Go.Proofs.Ytkhjdijdcjgpfaa

namespace Go.Proofs.Ytkhjdijdcjgpfaa
open Go.RowKit Go.Sort
set_option maxRecDepth 100000
def clo (xs : List Int) (S : Nat) : Prop := ∀ b c, S.testBit b = true → (winsN xs b).testBit c = true → S.testBit c = true
theorem it_sup (xs : List Int) (n : Nat) : ∀ f S c, S.testBit c = true → (itN xs n f S).testBit c = true := by
  intro f
  induction f with
  | zero => intro S c h; exact h
  | succ f ih =>
    intro S c h
    rw [itN]
    split
    · exact h
    · exact ih _ _ (by rw [testBit_orK, h]; rfl)
theorem it_sub {xs : List Int} {n T : Nat} (hT : clo xs T) : ∀ f S, (∀ c, S.testBit c = true → T.testBit c = true) → ∀ c, (itN xs n f S).testBit c = true → T.testBit c = true := by
  intro f
  induction f with
  | zero => intro S h c hc; exact h c hc
  | succ f ih =>
    intro S h c hc
    rw [itN] at hc
    split at hc
    · exact h c hc
    · refine ih _ (fun d hd => ?_) c hc
      rw [testBit_orK, Bool.or_eq_true, List.any_eq_true] at hd
      rcases hd with hd | ⟨b, hb, hbd⟩
      · exact h d hd
      · exact hT b d (h b (mem_memN.1 hb).2) hbd
theorem it_fix {xs : List Int} {n : Nat} (hn : n ≤ 8) (hw : ∀ b, b < n → winsN xs b < 2 ^ n) : ∀ f S, S < 2 ^ n → 256 ≤ f + S → itN xs n f S < 2 ^ n ∧ orK xs (memN (itN xs n f S) n) (itN xs n f S) = itN xs n f S := by
  have hp := pow_le hn
  intro f
  induction f with
  | zero => intro S hS h; omega
  | succ f ih =>
    intro S hS h
    rw [itN]
    split
    · rename_i he; exact ⟨hS, he⟩
    · rename_i he
      have h1 := orK_ge xs (memN S n) S
      exact ih _ (orK_ltn hw (fun b hb => (mem_memN.1 hb).1) hS) (by omega)
theorem reach_facts {s : Int} {xs : List Int} (hp : tourP s xs) {a : Nat} (ha : a < xs.length) :
    (reachN xs a).testBit a = true ∧ clo xs (reachN xs a) ∧ (∀ T, clo xs T → T.testBit a = true → ∀ c, (reachN xs a).testBit c = true → T.testBit c = true) ∧ reachN xs a < 2 ^ xs.length := by
  have hn : xs.length ≤ 8 := by have := hp.1; have := hp.2.1; omega
  have hw : ∀ b, b < xs.length → winsN xs b < 2 ^ xs.length := fun b hb => by
    have := (tour_wins hp hb).2.1
    rwa [show s.toNat = xs.length by have := hp.2.1; omega] at this
  have h2 : 2 ^ a < 2 ^ xs.length := Nat.pow_lt_pow_right (by decide) ha
  have h34 : reachN xs a < 2 ^ xs.length ∧ orK xs (memN (reachN xs a) xs.length) (reachN xs a) = reachN xs a := it_fix hn hw 256 (2 ^ a) h2 (Nat.le_add_right _ _)
  obtain ⟨h3, h4⟩ := h34
  refine ⟨it_sup xs xs.length 256 (2 ^ a) a (by simp), fun b c hb hc => ?_, fun T hT hTa c hc => it_sub hT 256 (2 ^ a) (fun d hd => ?_) c hc, h3⟩
  · have hbn : b < xs.length := by
      rcases Nat.lt_or_ge b xs.length with h | h
      · exact h
      · rw [Nat.testBit_lt_two_pow (Nat.lt_of_lt_of_le h3 (Nat.pow_le_pow_right (by decide) h))] at hb; cases hb
    have : (orK xs (memN (reachN xs a) xs.length) (reachN xs a)).testBit c = true := by
      rw [testBit_orK, Bool.or_eq_true, List.any_eq_true]
      exact .inr ⟨b, mem_memN.2 ⟨hbn, hb⟩, hc⟩
    rwa [h4] at this
  · rw [Nat.testBit_two_pow] at hd
    have : a = d := by simpa using hd
    subst this; exact hTa
theorem sub_eq {A B : Nat} (h1 : ∀ c, A.testBit c = true → B.testBit c = true) (h2 : ∀ c, B.testBit c = true → A.testBit c = true) : A = B :=
  Nat.eq_of_testBit_eq fun c => by rw [Bool.eq_iff_iff]; exact ⟨h1 c, h2 c⟩
theorem bit_lt {S n c : Nat} (hS : S < 2 ^ n) (h : S.testBit c = true) : c < n := by
  rcases Nat.lt_or_ge c n with h1 | h1
  · exact h1
  · rw [Nat.testBit_lt_two_pow (Nat.lt_of_lt_of_le hS (Nat.pow_le_pow_right (by decide) h1))] at h; cases h
def scK (xs : List Int) (a : Nat) : Nat := popN 8 (winsN xs a)
/-- who beats all of another one's reach has the greater score -/
theorem score_up {s : Int} {xs : List Int} (hp : tourP s xs) {a d : Nat} (ha : a < xs.length) (hd : d < xs.length) (h : ∀ e, (reachN xs a).testBit e = true → (winsN xs d).testBit e = true) : scK xs a < scK xs d := by
  have hn : xs.length ≤ 8 := by have := hp.1; have := hp.2.1; omega
  obtain ⟨h1, h2, -, h4⟩ := reach_facts hp ha
  unfold scK
  rw [pop_mem (tour_wins hp ha).2.2, pop_mem (tour_wins hp hd).2.2]
  have h5 := card_less (S := reachN xs a) (n := 8) (b := a) (mem_memN.2 ⟨by omega, h1⟩)
  have h6 := card_mono (S := winsN xs a) (T := less (reachN xs a) (2 ^ a)) (n := 8) (fun j hj => by
    rw [testBit_less, h2 a j h1 hj, Nat.testBit_two_pow]
    by_cases e : a = j
    · subst e; rw [beat_self hp ha] at hj; cases hj
    · simp [e])
  have h7 := card_mono (S := reachN xs a) (T := winsN xs d) (n := 8) h
  omega
/-- who is not reached beats all that are -/
theorem beats_reach {s : Int} {xs : List Int} (hp : tourP s xs) {a d : Nat} (ha : a < xs.length) (hd : d < xs.length) (h : (reachN xs a).testBit d = false) : ∀ e, (reachN xs a).testBit e = true → (winsN xs d).testBit e = true := by
  intro e he
  obtain ⟨-, h2, -, h4⟩ := reach_facts hp ha
  have hen := bit_lt h4 he
  have hne : d ≠ e := by intro e'; subst e'; rw [he] at h; cases h
  rw [beat_one hp hd hen hne]
  rcases q : (winsN xs e).testBit d with _ | _
  · rfl
  · rw [h2 e d he q] at h; cases h
def topF (xs : List Int) (n S : Nat) : Nat := setOf (fun a => S.testBit a && reachN xs a == S) n
theorem testBit_topF (xs : List Int) (n S c : Nat) : (topF xs n S).testBit c = (decide (c < n) && (S.testBit c && reachN xs c == S)) := testBit_setOf _ _ _
def partsF (xs : List Int) (n : Nat) : Nat → Nat → List Nat
  | 0, _ => []
  | f + 1, S => if S = 0 then [] else topF xs n S :: partsF xs n f (less S (topF xs n S))
theorem top_some {s : Int} {xs : List Int} (hp : tourP s xs) {S : Nat} (hS : S < 2 ^ xs.length) (hc : clo xs S) : ∀ k a, S.testBit a = true → 8 - scK xs a ≤ k → ∃ b, S.testBit b = true ∧ reachN xs b = S := by
  intro k
  induction k with
  | zero =>
    intro a ha hk
    have han := bit_lt hS ha
    obtain ⟨-, -, h3, h4⟩ := reach_facts hp han
    refine ⟨a, ha, sub_eq (h3 S hc ha) fun d hd => ?_⟩
    rcases q : (reachN xs a).testBit d with _ | _
    · have h5 := score_up hp han (bit_lt hS hd) (beats_reach hp han (bit_lt hS hd) q)
      have h6 : scK xs d ≤ 8 := by unfold scK; rw [pop_mem (tour_wins hp (bit_lt hS hd)).2.2]; exact memN_len _ _
      omega
    · rfl
  | succ k ih =>
    intro a ha hk
    have han := bit_lt hS ha
    obtain ⟨-, -, h3, h4⟩ := reach_facts hp han
    by_cases he : reachN xs a = S
    · exact ⟨a, ha, he⟩
    · have : ∃ d, S.testBit d = true ∧ (reachN xs a).testBit d = false := by
        apply Classical.byContradiction
        intro hno
        refine he (sub_eq (h3 S hc ha) fun d hd => ?_)
        rcases q : (reachN xs a).testBit d with _ | _
        · exact absurd ⟨d, hd, q⟩ hno
        · rfl
      obtain ⟨d, hd, hq⟩ := this
      have h5 := score_up hp han (bit_lt hS hd) (beats_reach hp han (bit_lt hS hd) hq)
      have h6 : scK xs d ≤ 8 := by unfold scK; rw [pop_mem (tour_wins hp (bit_lt hS hd)).2.2]; exact memN_len _ _
      exact ih d hd (by omega)
theorem add_disj {A B : Nat} (hA : A < 2 ^ 62) (hB : B < 2 ^ 62) (h : A &&& B = 0) : A + B = A ||| B := by
  have h1 : A < 2 ^ 64 := Nat.lt_trans hA (by decide)
  have h2 : B < 2 ^ 64 := Nat.lt_trans hB (by decide)
  have hb : (BitVec.ofNat 64 A) &&& (BitVec.ofNat 64 B) = 0#64 := by
    apply BitVec.eq_of_toNat_eq
    rw [BitVec.toNat_and, BitVec.toNat_ofNat, BitVec.toNat_ofNat, Nat.mod_eq_of_lt h1, Nat.mod_eq_of_lt h2, h]
    rfl
  have e1 : (2 : Nat) ^ 62 = 4611686018427387904 := by decide
  have e3 : (2 : Nat) ^ 64 = 18446744073709551616 := by decide
  have hlt : A + B < 2 ^ 64 := by omega
  have h3 := congrArg BitVec.toNat (BitVec.add_eq_or_of_and_eq_zero _ _ hb)
  rw [BitVec.toNat_add, BitVec.toNat_or, BitVec.toNat_ofNat, BitVec.toNat_ofNat, Nat.mod_eq_of_lt h1, Nat.mod_eq_of_lt h2, Nat.mod_eq_of_lt hlt] at h3
  exact h3
theorem less_sub {S T : Nat} (hS : S < 256) (hT : T < 256) (h : ∀ c, T.testBit c = true → S.testBit c = true) : less S T + T = S := by
  have h1 : less S T &&& T = 0 := Nat.eq_of_testBit_eq fun c => by
    rw [Nat.testBit_and, testBit_less, Nat.zero_testBit]
    cases S.testBit c <;> cases T.testBit c <;> rfl
  have h2 : less S T ||| T = S := Nat.eq_of_testBit_eq fun c => by
    rw [Nat.testBit_or, testBit_less]
    rcases q : T.testBit c with _ | _
    · simp
    · rw [h c q]; simp
  have h3 : less S T < 2 ^ 8 := less_lt hS
  have e : (256 : Nat) < 2 ^ 62 := by decide
  rw [add_disj (by omega) (by omega) h1, h2]
theorem top_sub (xs : List Int) (n S : Nat) : ∀ c, (topF xs n S).testBit c = true → S.testBit c = true := fun c h => by
  rw [testBit_topF] at h
  simp at h
  exact h.2.1
theorem rest_lt {s : Int} {xs : List Int} (hp : tourP s xs) {S : Nat} (hS : S < 2 ^ xs.length) (hc : clo xs S) (h0 : S ≠ 0) : less S (topF xs xs.length S) < S := by
  have hn : xs.length ≤ 8 := by have := hp.1; have := hp.2.1; omega
  have hp8 := pow_le hn
  have hT : topF xs xs.length S < 256 := setOf_small _ hn
  have h1 := less_sub (by omega) hT (top_sub xs xs.length S)
  obtain ⟨a, ha⟩ := Nat.exists_testBit_of_ne_zero h0
  obtain ⟨b, hb, hr⟩ := top_some hp hS hc 8 a ha (by omega)
  have h2 : (topF xs xs.length S).testBit b = true := by rw [testBit_topF]; simp [bit_lt hS hb, hb, hr]
  have h3 : topF xs xs.length S ≠ 0 := by intro e; rw [e] at h2; simp at h2
  omega
theorem rest_clo {s : Int} {xs : List Int} (hp : tourP s xs) {S : Nat} (hS : S < 2 ^ xs.length) (hc : clo xs S) : clo xs (less S (topF xs xs.length S)) := by
  intro b c hb hbc
  rw [testBit_less, Bool.and_eq_true] at hb
  have hbn := bit_lt hS hb.1
  have hcS := hc b c hb.1 hbc
  have hcn := bit_lt hS hcS
  obtain ⟨b1, b2, b3, -⟩ := reach_facts hp hbn
  obtain ⟨c1, c2, c3, -⟩ := reach_facts hp hcn
  rw [testBit_less, hcS, Bool.true_and]
  rcases q : (topF xs xs.length S).testBit c with _ | _
  · rfl
  · rw [testBit_topF] at q
    have hrc : reachN xs c = S := by simp at q; exact q.2.2
    have hrb : reachN xs b = S := sub_eq (b3 S hc hb.1) fun d hd => by
      rw [← hrc] at hd
      exact c3 _ b2 (b2 b c b1 hbc) d hd
    have : (topF xs xs.length S).testBit b = true := by rw [testBit_topF]; simp [hbn, hb.1, hrb]
    rw [this] at hb
    simp at hb
theorem parts_fuel {s : Int} {xs : List Int} (hp : tourP s xs) : ∀ f g S, S < f → S < g → S < 2 ^ xs.length → clo xs S → partsF xs xs.length f S = partsF xs xs.length g S := by
  intro f
  induction f with
  | zero => intro g S h; omega
  | succ f ih =>
    intro g S hf hg hS hc
    obtain ⟨g, rfl⟩ : ∃ k, g = k + 1 := ⟨g - 1, by omega⟩
    rw [partsF, partsF]
    split
    · rfl
    · rename_i h0
      have h1 := rest_lt hp hS hc h0
      rw [ih g _ (by omega) (by omega) (by omega) (rest_clo hp hS hc)]
def partsN (xs : List Int) (S : Nat) : List Nat := partsF xs xs.length (S + 1) S
theorem partsN_zero (xs : List Int) : partsN xs 0 = [] := by simp [partsN, partsF]
theorem partsN_step {s : Int} {xs : List Int} (hp : tourP s xs) {S : Nat} (hS : S < 2 ^ xs.length) (hc : clo xs S) (h0 : S ≠ 0) : partsN xs S = topF xs xs.length S :: partsN xs (less S (topF xs xs.length S)) := by
  have h1 := rest_lt hp hS hc h0
  unfold partsN
  rw [partsF, if_neg h0, parts_fuel hp S (less S (topF xs xs.length S) + 1) _ (by omega) (by omega) (by omega) (rest_clo hp hS hc)]
/-- one more part, from the back -/
theorem part_more {s : Int} {xs : List Int} (hp : tourP s xs) {K x : Nat} (hK : K < 2 ^ xs.length) (hc : clo xs K) (hx : x < xs.length) (hn : K.testBit x = false) (hlow : ∀ y, y < xs.length → scK xs y < scK xs x → K.testBit y = true) :
    less (reachN xs x) K = topF xs xs.length (reachN xs x) ∧ K ||| reachN xs x = reachN xs x ∧ less (reachN xs x) (topF xs xs.length (reachN xs x)) = K := by
  obtain ⟨x1, x2, x3, x4⟩ := reach_facts hp hx
  have hA : ∀ c, K.testBit c = true → (reachN xs x).testBit c = true := fun c h => by
    have hcn := bit_lt hK h
    have hne : x ≠ c := by intro e; subst e; rw [h] at hn; cases hn
    refine x2 x c x1 ?_
    rw [beat_one hp hx hcn hne]
    rcases q : (winsN xs c).testBit x with _ | _
    · rfl
    · rw [hc c x h q] at hn; cases hn
  have hB : ∀ c, (reachN xs x).testBit c = true → (K.testBit c = true ↔ ¬ reachN xs c = reachN xs x) := fun c h => by
    have hcn := bit_lt x4 h
    obtain ⟨c1, c2, c3, -⟩ := reach_facts hp hcn
    constructor
    · intro hk e
      have := c3 K hc hk x (by rw [e]; exact x1)
      rw [this] at hn; cases hn
    · intro hne
      refine hlow c hcn (score_up hp hcn hx (beats_reach hp hcn hx ?_))
      rcases q : (reachN xs c).testBit x with _ | _
      · rfl
      · exact absurd (sub_eq (c3 _ x2 h) (x3 _ c2 q)) hne
  refine ⟨Nat.eq_of_testBit_eq fun c => ?_, Nat.eq_of_testBit_eq fun c => ?_, Nat.eq_of_testBit_eq fun c => ?_⟩
  · rw [testBit_less, testBit_topF]
    rcases q : (reachN xs x).testBit c with _ | _
    · simp
    · have h1 := hB c q
      have h2 := bit_lt x4 q
      rcases k : K.testBit c with _ | _
      · rw [k] at h1
        have : reachN xs c = reachN xs x := Classical.byContradiction fun hne => by have := h1.2 hne; cases this
        simp [h2, this]
      · rw [k] at h1
        have := h1.1 rfl
        simp [this]
  · rw [Nat.testBit_or]
    rcases k : K.testBit c with _ | _
    · rfl
    · rw [hA c k]; rfl
  · rw [testBit_less, testBit_topF]
    rcases q : (reachN xs x).testBit c with _ | _
    · rcases k : K.testBit c with _ | _
      · rfl
      · rw [hA c k] at q; cases q
    · have h1 := hB c q
      have h2 := bit_lt x4 q
      rcases k : K.testBit c with _ | _
      · rw [k] at h1
        have : reachN xs c = reachN xs x := Classical.byContradiction fun hne => by have := h1.2 hne; cases this
        simp [h2, this]
      · rw [k] at h1
        have := h1.1 rfl
        simp [this]
theorem or_clo {xs : List Int} {A B : Nat} (hA : clo xs A) (hB : clo xs B) : clo xs (A ||| B) := fun b c hb hc => by
  rw [Nat.testBit_or, Bool.or_eq_true] at hb ⊢
  rcases hb with hb | hb
  · exact .inl (hA b c hb hc)
  · exact .inr (hB b c hb hc)
end Go.Proofs.Ytkhjdijdcjgpfaa

namespace Go.Proofs.Ytkhjdijdcjgpfaa
open Go.RowKit Go.Sort
set_option maxRecDepth 100000
/-- everybody outside of the set is beaten by somebody in it -/
def domN (xs : List Int) (S : Nat) : Bool := orK xs (memN S 8) S == 2 ^ xs.length - 1
set_option maxHeartbeats 1000000 in
theorem dominates_any (n : Nat) (sl : Value) (xs : List Int) (S : Nat) (w : World) (h : Rd w sl xs) (hp : tourP n xs) (hS : S < 2 ^ n) :
    Calls Try.prog 75 #[.agg #[.int .i64 n, sl], .int .i64 S] w fun e w' => e = .returned (.bool (domN xs S)) ∧ Below w.heap.size w w' := by
  have hln := tour_len hp
  have h8 : n ≤ 8 := by have := hp.1; omega
  have h256 : S < 256 := Nat.lt_of_lt_of_le hS (Nat.pow_le_pow_right (n := 2) (j := 8) (by decide) h8)
  obtain ⟨g, off, c, rfl, hm, hg, hx⟩ := tour_cells h hp
  unfold maxLen at hm
  rw [hln] at hx ⊢
  have HX := Lib.hid hx
  have HW := Lib.hid (fun j (hj : j < n) => (tour_wins hp (a := j) (by rw [hln]; exact hj)).2.2)
  have HM : Hid (∀ b ∈ memN S 8, b < n) := Lib.hid fun b hb => bit_lt hS (mem_memN.1 hb).2
  have HK := Lib.hid (fun (l : List Nat) (hl : ∀ b ∈ l, b < n) => orK_lt hp (l := l) (fun b hb => by rw [hln]; exact hl b hb) h256)
  have hR : Hid (domN xs S = (orK xs (memN S 8) S == 2 ^ n - 1)) := by unfold Hid domN; rw [hln]
  clear hp h hx hln hS
  go_enter Try.func75, Try.ntmps75
  go_wp2_with fail
  have b0 := below_alloc1 w (.cells #[.int .i64 n, .slice (some ⟨g, off, none⟩) n c] 25)
  have x0 := TBox.new w n (.slice (some ⟨g, off, none⟩) n c) 25
  generalize w.alloc (.cells #[.int .i64 n, .slice (some ⟨g, off, none⟩) n c] 25) = w0 at *
  have HX0 := Lib.hid x0
  have HB0 := Lib.hid b0
  clear x0 b0
  have y0_0 := HX0.out.1
  have y1_0 := HX0.out.2
  go_wp2_with fail
  refine (membersOf_any S 8 _ h256 (by omega)).mono ?_
  rintro e w2 ⟨v, rfl, ho, hb2⟩
  obtain ⟨A, d, rfl, hd1, hd2, hl⟩ := memL_cells ho
  unfold maxLen at hd1
  have HL := Lib.hid hl
  have B2 := Lib.hid (Below.then HB0.out hb2)
  have X2 := HX0.out.below hb2
  clear y0_0 y1_0
  have y0 := X2.1
  have y1 := X2.2
  have HXX := Lib.hid (fun j hj => (B2.out.cell (by exact hg)).trans (HX.out j hj))
  have hm8 := memN_len S 8
  clear hb2 HB0 HX0 ho hl X2
  generalize hlst : memN S 8 = L at *
  generalize hLn : L.length = m at *
  have HLN := Lib.hid hLn
  clear hLn hlst
  go_wp2
  go_loop [5, 12] (fun t i => ∃ k : Nat, k ≤ m ∧ i = .int .i64 k ∧ t = .int .i64 (orK xs (L.take k) S : Nat)) (fun _ i => m - (intOf i).toNat)
  case atStart => exact ⟨0, by omega, rfl, by simp [orK]⟩
  case round =>
    obtain ⟨k, hk, rfl, rfl⟩ := hrel
    have hN8 := HK.out (L.take k) (fun b hb => HM.out b (List.mem_of_mem_take hb))
    by_cases hlt : k < m
    · have hkl : k < L.length := by rw [HLN.out]; exact hlt
      obtain ⟨g', off', rfl, hg', hz⟩ := HL.out (by omega)
      have hzk := hz k hlt
      have hbn := HM.out (L.getD k 0) (by rw [getD_nat hkl]; exact List.getElem_mem hkl)
      have hxb := HXX.out (L.getD k 0) hbn
      have hw8 := HW.out (L.getD k 0) hbn
      have HST : Hid (orK xs (L.take (k + 1)) S = orK xs (L.take k) S ||| winsN xs (L.getD k 0)) := by unfold Hid; rw [take_snocN hkl, orK_snoc, getD_nat hkl]
      generalize L.getD k 0 = b at *
      generalize orK xs (L.take k) S = N at *
      have hor := i64_or_nat N (winsN xs b) (by omega) (by omega)
      generalize winsN xs b = wb at *
      clear hz
      go_wp2
      go_round
      case rel => exact ⟨k + 1, by omega, by go_num, by rw [HST.out]⟩
      case measure => simp [intOf]; omega
    · obtain rfl : k = m := by omega
      rw [show L.take k = L from List.take_of_length_le (by rw [HLN.out]; exact Nat.le_refl _)] at hN8 ⊢
      have hfull := full_nat n (by omega)
      generalize orK xs L S = N at *
      go_wp2
      go_ret
      refine ⟨ret_bool ?_, B2.out⟩
      rw [hR.out]
      first | rw [hfull] | skip
      rw [Bool.eq_iff_iff, beq_iff_eq, beq_iff_eq]
      omega
set_option maxHeartbeats 1000000 in
theorem cDom (n : Nat) (sl : Value) (xs : List Int) (S : Nat) (K : Int) (hK : K = S) (w : World) (h : Rd w sl xs) (hp : tourP n xs) (h1 : 1 ≤ S) (hS : S < 2 ^ n) :
    Calls Try.prog 20 #[.agg #[.int .i64 n, sl], .int .i64 K] w fun e w' => e = .returned (.bool (domN xs S)) ∧ Below w.heap.size w w' := by
  subst hK
  have HR := Lib.hid h
  have HP := Lib.hid hp
  have q0 : tourB n xs = true := tourB_true.2 hp
  have hln := tour_len hp
  have h8 : n ≤ 8 := by have := hp.1; omega
  have h256 : 2 ^ n ≤ 256 := Nat.pow_le_pow_right (n := 2) (j := 8) (by decide) h8
  have HSN := Lib.hid hS
  have hin : inB (S : Int) 1 ((2 ^ n - 1 : Nat) : Int) = true := inB_true.2 ⟨by omega, by omega⟩
  have hfull := full_nat n (by omega)
  obtain ⟨A, c, rfl, -, hcm, -⟩ := h
  unfold maxLen at hcm
  rw [hln] at HR ⊢
  clear hp hln hS h256
  go_enter Try.func20, Try.ntmps20
  go_wp2_with fail
  have b0 := below_alloc1 w (.cells #[.int .i64 n, .slice A n c] 25)
  have x0 := TBox.new w n (.slice A n c) 25
  generalize w.alloc (.cells #[.int .i64 n, .slice A n c] 25) = w0 at *
  have HX0 := Lib.hid x0
  have HB0 := Lib.hid b0
  clear x0 b0
  have y0_0 := HX0.out.1
  have y1_0 := HX0.out.2
  go_wp2_with fail
  refine (implTourOk n _ xs _ (HR.out.below HB0.out)).mono ?_
  rintro e w1 ⟨rfl, hb⟩
  have HX1 := Lib.hid (HX0.out.below hb)
  have HB1 := Lib.hid (Below.then HB0.out hb)
  clear hb HX0 HB0 y0_0 y1_0
  have y0_1 := HX1.out.1
  have y1_1 := HX1.out.2
  rw [q0]
  go_wp2_with (go_at_call 76; refine (within_any _ _ _ _).mono ?_; rintro e w2 ⟨rfl, rfl⟩)
  clear hfull hin
  refine (dominates_any n (.slice A n c) xs S _ (HR.out.below HB1.out) HP.out HSN.out).mono ?_
  rintro e w5 ⟨rfl, hb5⟩
  have HB5 := Lib.hid (Below.then HB1.out hb5)
  clear hb5
  go_wp2
  go_ret
  exact ⟨rfl, HB5.out⟩
/-! the least dominating set -/
def ldStep (xs : List Int) (best S : Nat) : Nat := if popN 8 S < popN 8 best ∧ domN xs S = true then S else best
def ldK (xs : List Int) (n : Nat) : Nat → Nat
  | 0 => 2 ^ n - 1
  | k + 1 => ldStep xs (ldK xs n k) (k + 1)
theorem ldK_lt (xs : List Int) (n : Nat) : ∀ k, k < 2 ^ n → ldK xs n k < 2 ^ n := by
  intro k
  induction k with
  | zero => intro _; have := Nat.one_le_two_pow (n := n); simp only [ldK]; omega
  | succ k ih =>
    intro hk
    have := ih (by omega)
    simp only [ldK, ldStep]
    split <;> omega
set_option maxHeartbeats 2000000 in
theorem cLDom (n : Nat) (sl : Value) (xs : List Int) (w : World) (h : Rd w sl xs) (hp : tourP n xs) :
    Calls Try.prog 19 #[.agg #[.int .i64 n, sl]] w fun e w' => e = .returned (.int .i64 (ldK xs n (2 ^ n - 1) : Nat)) ∧ Below w.heap.size w w' := by
  have HR := Lib.hid h
  have HP := Lib.hid hp
  have q0 : tourB n xs = true := tourB_true.2 hp
  have hln := tour_len hp
  have hs := hp.1
  have h8 : n ≤ 8 := by omega
  have h256 : 2 ^ n ≤ 256 := Nat.pow_le_pow_right (n := 2) (j := 8) (by decide) h8
  have hfull := full_nat n (by omega)
  have hsh := shl_nat n (by omega)
  obtain ⟨Q, hQ⟩ : ∃ Q, Q = 2 ^ n := ⟨_, rfl⟩
  have HQ := Lib.hid hQ
  have hQ1 : 1 ≤ Q := by rw [hQ]; exact Nat.one_le_two_pow
  rw [← hQ] at h256 hsh hfull ⊢
  have HLT : Hid (∀ k, k < Q → ldK xs n k < Q) := Lib.hid (by rw [hQ]; exact ldK_lt xs n)
  have HL0 : Hid (ldK xs n 0 = Q - 1) := Lib.hid (by rw [hQ]; rfl)
  obtain ⟨A, c, rfl, -, hcm, -⟩ := h
  unfold maxLen at hcm
  rw [hln] at HR ⊢
  clear hp hln hQ
  go_enter Try.func19, Try.ntmps19
  go_wp2_with fail
  have b0 := below_alloc1 w (.cells #[.int .i64 n, .slice A n c] 25)
  have x0 := TBox.new w n (.slice A n c) 25
  generalize w.alloc (.cells #[.int .i64 n, .slice A n c] 25) = w0 at *
  have HX0 := Lib.hid x0
  have HB0 := Lib.hid b0
  clear x0 b0
  have y0_0 := HX0.out.1
  have y1_0 := HX0.out.2
  go_wp2_with fail
  refine (implTourOk n _ xs _ (HR.out.below HB0.out)).mono ?_
  rintro e w1 ⟨rfl, hb⟩
  have HX1 := Lib.hid (HX0.out.below hb)
  have HB1 := Lib.hid (Below.then HB0.out hb)
  clear hb HX0 HB0 y0_0 y1_0
  have y0_1 := HX1.out.1
  have y1_1 := HX1.out.2
  rw [q0]
  have HSH := Lib.hid hsh
  go_wp2
  clear hfull hsh
  go_loopw [3, 4] (fun t3 t4 wr => ∃ (k : Nat), k + 1 ≤ Q ∧ t4 = .int .i64 ((k + 1 : Nat) : Int) ∧ t3 = .int .i64 (ldK xs n k : Nat) ∧ Hid (TBox wr w.heap.size n (.slice A n c)) ∧ Hid (Below w.heap.size w wr)) (fun _ t4 _ => Q - (intOf t4).toNat)
  case atStart => exact ⟨0, by omega, rfl, by rw [HL0.out]; congr 1; omega, HX1, HB1⟩
  case round =>
    obtain ⟨k, hk, rfl, rfl, HX, HB⟩ := hrel
    clear HX1 HB1 y0_1 y1_1
    have y0 := HX.out.1
    have y1 := HX.out.2
    by_cases hlt : k + 1 < Q
    · have hb := HLT.out k (by omega)
      have HST := Lib.hid (show ldK xs n (k + 1) = ldStep xs (ldK xs n k) (k + 1) from rfl)
      unfold ldStep at HST
      have hlti : ((k + 1 : Nat) : Int) < (Q : Int) := by omega
      have hk256 : k + 1 < 256 := by omega
      have hb256 : ldK xs n k < 256 := by omega
      have HDM := Lib.hid (fun W (hW : Rd W (.slice A n c) xs) => dominates_any n (.slice A n c) xs (k + 1) W hW HP.out (by rw [← HQ.out]; exact hlt))
      have hMeas : Q - (k + 1 + 1) < Q - (k + 1) := by omega
      have hk2 : k + 1 + 1 ≤ Q := hlt
      generalize ldK xs n k = best at *
      generalize hKK : k + 1 = K at *
      have hsh := HSH.out
      go_wp2_with fail
      refine (ones_any K _ hk256).mono ?_
      rintro e wz ⟨rfl, rfl⟩
      clear hsh
      go_wp2_with fail
      refine (ones_any best _ hb256).mono ?_
      rintro e wz ⟨rfl, rfl⟩
      have HXB := HX
      by_cases hpl : popN 8 K < popN 8 best
      · have hd1 : decide ((popN 8 K : Int) < (popN 8 best : Int)) = true := by simp; omega
        have hd2 : decide (popN 8 K < popN 8 best) = true := by simp; omega
        have hi : (popN 8 K : Int) < (popN 8 best : Int) := by omega
        go_wp2_with fail
        refine (HDM.out _ (HR.out.below HB.out)).mono ?_
        rintro e w5 ⟨rfl, hb5⟩
        have HX5 := Lib.hid (HX.out.below hb5)
        have HB5 := Lib.hid (Below.then HB.out hb5)
        clear hb5 HX HB HXB y0 y1 hd1 hd2 hi
        rcases q : domN xs K with _ | _
        · rw [q, if_neg (by simp)] at HST
          go_wp2
          go_roundw
          case rel => exact ⟨K, hk2, by go_num, congrArg (fun z : Nat => Value.int .i64 (z : Int)) HST.out.symm, HX5, HB5⟩
          case measure => simp [intOf]; omega
        · rw [q, if_pos ⟨hpl, rfl⟩] at HST
          go_wp2
          go_roundw
          case rel => exact ⟨K, hk2, by go_num, congrArg (fun z : Nat => Value.int .i64 (z : Int)) HST.out.symm, HX5, HB5⟩
          case measure => simp [intOf]; omega
      · have hd1 : decide ((popN 8 K : Int) < (popN 8 best : Int)) = false := by simp; omega
        have hd2 : decide (popN 8 K < popN 8 best) = false := by simp; omega
        have hi : ¬ (popN 8 K : Int) < (popN 8 best : Int) := by omega
        rw [if_neg (fun h => hpl h.1)] at HST
        go_wp2
        go_roundw
        case rel => exact ⟨K, hk2, by go_num, congrArg (fun z : Nat => Value.int .i64 (z : Int)) HST.out.symm, HX, HB⟩
        case measure => simp [intOf]; omega
    · have hkq : k + 1 = Q := by omega
      have hk' : k = Q - 1 := by omega
      subst hk'
      have hlti : ¬ (((Q - 1 + 1 : Nat) : Int) < (Q : Int)) := by omega
      have hsh := HSH.out
      go_wp2
      go_ret
      exact ⟨rfl, HB.out⟩
end Go.Proofs.Ytkhjdijdcjgpfaa

namespace Go.Proofs.Ytkhjdijdcjgpfaa
open Go.RowKit Go.Sort
set_option maxRecDepth 100000

def idxL (n : Nat) : List Int := (List.range n).map fun (a : Nat) => (a : Int)
theorem idxL_len (n : Nat) : (idxL n).length = n := by simp [idxL]
theorem idxL_at {n a : Nat} (h : a < n) : (idxL n).getD a 0 = a := by simp [idxL, h]
theorem idxL_mem {n : Nat} {x : Int} (h : x ∈ idxL n) : ∃ a : Nat, a < n ∧ x = a := by
  unfold idxL at h
  rw [List.mem_map] at h
  obtain ⟨a, ha, e⟩ := h
  exact ⟨a, List.mem_range.1 ha, e.symm⟩
set_option maxHeartbeats 2000000 in
theorem indices_any (n : Nat) (hn : n ≤ 1000) (w : World) (h1 : 1 ≤ n) :
    Calls Try.prog 63 #[.int .i64 n] w fun e w' => e = .returned (.slice (some ⟨w.heap.size, 0, none⟩) n n) ∧ Own w' w.heap.size (.slice (some ⟨w.heap.size, 0, none⟩) n n) (idxL n) ∧ Below w.heap.size w w' := by
  obtain ⟨i0, hi, hz0, hz1, hz2⟩ := info_parts i64_info
  go_enter Try.func63, Try.ntmps63
  go_wp2_with (at_make; refine wpList_make_full _ rfl _ _ 23 rfl w.heap.size 3 i0 (.int .i64 0) 1 Try.underlying23 hi hz0 hz1 _ _ _ _ n rfl rfl rfl rfl (by rw [hz2]; omega) (by unfold maxLen; omega) (Nat.le_refl _) ?_; intro w1 hown hg1; have HB1 := Lib.hid ((Below.refl w.heap.size w).grown hg1 (Nat.le_refl _) (by simp)); have HOWN := Lib.hid hown; clear hown hg1)
  have HO1 : Hid (Own w1 w.heap.size (.slice (some ⟨w.heap.size, 0, none⟩) n n) (List.replicate n 0)) := by
    have ho := HOWN.out
    rw [ints_made'] at ho
    unfold Hid Own
    rw [List.length_replicate]
    exact ho
  clear HOWN
  go_loopw [9] (fun i wr => ∃ (k : Nat) (N : List Int), k ≤ n ∧ i = .int .i64 k ∧ N.length = n ∧ Own wr w.heap.size (.slice (some ⟨w.heap.size, 0, none⟩) n n) N ∧ Hid (∀ i, i < k → N.getD i 0 = (i : Int)) ∧ Below w.heap.size w wr) (fun i _ => n - (intOf i).toNat)
  case atStart => exact ⟨0, _, by omega, rfl, by simp, HO1.out, fun i hi => absurd hi (by omega), HB1.out⟩
  case round =>
    obtain ⟨k, N, hk, rfl, hNl, ho, HP, hb⟩ := hrel
    have HO := Lib.hid ho
    have HB := Lib.hid hb
    clear ho hb
    by_cases hlt : k < n
    · obtain ⟨hx, hf⟩ := HO.out.at1 hNl (by omega)
      have zk := hx k hlt
      have fk := hf k
      have HO3 := Lib.hid (HO.out.set_ hNl k (k : Int)).1
      have HB3 := Lib.hid (HB.out.setCell (p := ⟨w.heap.size, k, none⟩) (Nat.le_refl _) (.int .i64 k))
      clear hx hf
      go_wp2
      go_roundw
      case rel =>
        refine ⟨k + 1, N.set k k, by omega, by go_num, by simp [hNl], HO3.out, fun i hi => ?_, HB3.out⟩
        by_cases hik : i = k
        · subst hik; rw [getD_set_same _ (by omega)]
        · rw [getD_set_other _ (Ne.symm hik)]; exact HP.out i (by omega)
      case measure => simp [intOf]; omega
    · obtain rfl : n = k := by omega
      have HE : Hid (N = idxL n) := list_ext0 hNl (idxL_len n) fun i hi => by rw [HP.out i hi, idxL_at hi]
      go_wp2
      go_ret
      exact ⟨rfl, by rw [← HE.out]; exact HO.out, HB.out⟩
end Go.Proofs.Ytkhjdijdcjgpfaa

namespace Go.Proofs.Ytkhjdijdcjgpfaa
open Go.RowKit Go.Sort
set_option maxRecDepth 100000
def svB (xs : List Int) (n : Nat) (x : Int) : Bool := decide (scN xs x.toNat = (n : Int) - 1)
def svI (xs : List Int) (n : Nat) : Int := findI (svB xs n) (idxL n)
/-- the sovereign's number, or -1 -/
theorem svI_facts {n : Nat} {xs : List Int} (hp : tourP n xs) : (∃ a : Nat, svI xs n = a ∧ svP xs n a) ∨ (svI xs n = -1 ∧ ∀ a, ¬ svP xs n a) := by
  unfold svI findI
  rcases h : (idxL n).findIdx? (svB xs n) with _ | k
  · right
    refine ⟨rfl, fun a ha => ?_⟩
    rw [List.findIdx?_eq_none_iff] at h
    have h1 := h (a : Int) (by unfold idxL; exact List.mem_map.2 ⟨a, by simpa using ha.1, rfl⟩)
    unfold svB at h1
    rw [decide_eq_false_iff_not, Int.toNat_natCast] at h1
    exact h1 ((sv_score hp ha.1).2 ha)
  · left
    rw [List.findIdx?_eq_some_iff_getElem] at h
    obtain ⟨hk, h1, -⟩ := h
    rw [idxL_len] at hk
    have e : (idxL n)[k]'(by rw [idxL_len]; exact hk) = (k : Int) := by unfold idxL; simp
    rw [e] at h1
    unfold svB at h1
    rw [decide_eq_true_eq, Int.toNat_natCast] at h1
    exact ⟨k, rfl, (sv_score hp hk).1 h1⟩
set_option maxHeartbeats 1000000 in
theorem sv1_any (n : Nat) (sl : Value) (xs : List Int) (hp : tourP n xs) (a gt : Nat) (W : World) (hr : Rd W sl xs) (ht : TBox W gt n sl) (ha : a < n) :
    Calls Try.prog 64 #[.int .i64 a, .pointer (some ⟨gt, 0, none⟩)] W fun e w' => e = .returned (.bool (svB xs n a)) ∧ Below W.heap.size W w' := by
  have k1 := quiet_below (w := W) (fun W' hW => score_any n sl xs a W' (hr.below hW) hp (by rw [tour_len hp]; exact ha))
  have hs := hp.1
  have hF : Hid (svB xs n a = decide (((popN 8 (winsN xs a) : Nat) : Int) = (n : Int) - 1)) := rfl
  rw [hF.out]
  have h8 := popN_le 8 (winsN xs a)
  generalize popN 8 (winsN xs a) = sa at *
  have hw : IntKind.i64.wrap ((n : Int) - 1) = (n : Int) - 1 := by rw [IntKind.wrap_i64]; omega
  have d1 := cell_regrown ht.1
  have d2 := cell_regrown ht.2
  clear hr ht hp
  go_enter Try.func64, Try.ntmps64
  go_wp2_with fail
  refine wp_region_below (by kernel_rfl) (by kernel_rfl) ?_
  repeat (go_big_quiet_step (first | (with_reducible exact k1 _ _)))
  refine wpQuiet_nil ?_
  intro wq hbq0
  have HBQ := Lib.hid hbq0
  clear hbq0 d1 d2 k1
  go_wp2
  go_ret
  exact ⟨ret_bool (by first | rfl | (rw [Bool.eq_iff_iff]; simp [hw]) | (rw [hw]; rw [Bool.eq_iff_iff]; simp)), HBQ.out⟩
theorem enters_sv1 : Enters 64 := fun _ _ => by kernel_rfl
set_option maxHeartbeats 1000000 in
theorem cSov (n : Nat) (sl : Value) (xs : List Int) (w : World) (h : Rd w sl xs) (hp : tourP n xs) :
    Calls Try.prog 10 #[.agg #[.int .i64 n, sl]] w fun e w' => e = .returned (.int .i64 (svI xs n)) ∧ Below w.heap.size w w' := by
  have HR := Lib.hid h
  have HP := Lib.hid hp
  have q0 : tourB n xs = true := tourB_true.2 hp
  have hln := tour_len hp
  have hs := hp.1
  obtain ⟨A, c, rfl, -, hcm, -⟩ := h
  unfold maxLen at hcm
  rw [hln] at HR ⊢
  clear hp hln
  go_enter Try.func10, Try.ntmps10
  go_wp2_with fail
  have b0 := below_alloc1 w (.cells #[.int .i64 n, .slice A n c] 25)
  have x0 := TBox.new w n (.slice A n c) 25
  generalize w.alloc (.cells #[.int .i64 n, .slice A n c] 25) = w0 at *
  have HX0 := Lib.hid x0
  have HB0 := Lib.hid b0
  clear x0 b0
  have y0_0 := HX0.out.1
  have y1_0 := HX0.out.2
  go_wp2_with fail
  refine (implTourOk n _ xs _ (HR.out.below HB0.out)).mono ?_
  rintro e w1 ⟨rfl, hb⟩
  have HX1 := Lib.hid (HX0.out.below hb)
  have HB1 := Lib.hid (Below.then HB0.out hb)
  clear hb HX0 HB0 y0_0 y1_0
  have y0_1 := HX1.out.1
  have y1_1 := HX1.out.2
  rw [q0]
  go_wp2_with fail
  refine (indices_any n (by omega) _ (by omega)).mono ?_
  rintro e w2 ⟨rfl, ho, hb2⟩
  have HX2 := Lib.hid (HX1.out.below hb2)
  have HB2 := Lib.hid (Below.then HB1.out hb2)
  have HO2 := Lib.hid ho.rd
  clear ho hb2 HX1 HB1 y0_1 y1_1
  go_wp2_with fail
  refine (indexFunc_any 64 #[.pointer (some ⟨w.heap.size, 0, none⟩)] enters_sv1 _ (idxL n) (svB xs n) w2 HO2.out (fun x hx W hW => by
    obtain ⟨a, ha, rfl⟩ := idxL_mem hx
    exact sv1_any n (.slice A n c) xs HP.out a w.heap.size W (HR.out.below (Below.then HB2.out hW)) (HX2.out.below hW) ha)).mono ?_
  rintro e w5 ⟨rfl, hb5⟩
  have HB5 := Lib.hid (Below.then HB2.out hb5)
  clear hb5
  go_wp2
  go_ret
  exact ⟨rfl, HB5.out⟩
end Go.Proofs.Ytkhjdijdcjgpfaa

namespace Go.Proofs.Ytkhjdijdcjgpfaa
open Go.RowKit Go.Sort
set_option maxRecDepth 100000
def cardN (S n : Nat) : Nat := (memN S n).length
theorem cardN_succ (S n : Nat) : cardN S (n + 1) = cardN S n + if S.testBit n = true then 1 else 0 := by
  unfold cardN
  rw [memN_succ, List.length_append]
  split <;> simp
theorem card_split {S T : Nat} (h : ∀ c, T.testBit c = true → S.testBit c = true) (n : Nat) : cardN (less S T) n + cardN T n = cardN S n := by
  induction n with
  | zero => simp [cardN, memN]
  | succ n ih =>
    rw [cardN_succ, cardN_succ, cardN_succ, testBit_less]
    have := h n
    cases h1 : S.testBit n <;> cases h2 : T.testBit n <;> simp_all <;> omega
theorem card_pos {S n c : Nat} (hc : c < n) (h : S.testBit c = true) : 1 ≤ cardN S n := List.length_pos_of_mem (mem_memN.2 ⟨hc, h⟩)
theorem card_two {S n c d : Nat} (hc : c < n) (hd : d < n) (h1 : S.testBit c = true) (h2 : S.testBit d = true) (h : c ≠ d) : 2 ≤ cardN S n := by
  have h3 : d ∈ (memN S n).erase c := (List.mem_erase_of_ne (Ne.symm h)).2 (mem_memN.2 ⟨hd, h2⟩)
  have e := List.length_erase_of_mem (mem_memN.2 ⟨hc, h1⟩ : c ∈ memN S n)
  have := List.length_pos_of_mem h3
  unfold cardN; omega
theorem card_uniq {S n : Nat} (h : ∀ c d, c < n → d < n → S.testBit c = true → S.testBit d = true → c = d) : cardN S n ≤ 1 := by
  unfold cardN
  rcases q : memN S n with _ | ⟨a, _ | ⟨b, l⟩⟩
  · simp
  · simp
  · exfalso
    have ha := mem_memN.1 (show a ∈ memN S n by rw [q]; simp)
    have hb := mem_memN.1 (show b ∈ memN S n by rw [q]; simp)
    have := h a b ha.1 hb.1 ha.2 hb.2
    subst this
    have hn := memN_nodup S n
    rw [q] at hn
    simp at hn
theorem card_full (n : Nat) : cardN (2 ^ n - 1) n = n := by
  unfold cardN memN
  rw [List.filter_eq_self.2 fun a ha => by rw [testBit_full]; simpa using ha]
  simp
section
variable {n : Nat} {xs : List Int}
theorem top_ex (hp : tourP n xs) {S : Nat} (hS : S < 2 ^ n) (hc : clo xs S) (h0 : S ≠ 0) : ∃ b, b < n ∧ (topF xs n S).testBit b = true := by
  have hl := tour_len hp
  obtain ⟨a, ha⟩ := Nat.exists_testBit_of_ne_zero h0
  obtain ⟨b, hb, e⟩ := top_some hp (by rw [hl]; exact hS) hc _ a ha (Nat.le_refl _)
  have hbn := bit_lt hS hb
  exact ⟨b, hbn, by rw [testBit_topF]; simp [hbn, hb, e]⟩
theorem rest_n (hp : tourP n xs) {S : Nat} (hS : S < 2 ^ n) (hc : clo xs S) (h0 : S ≠ 0) : less S (topF xs n S) < S ∧ clo xs (less S (topF xs n S)) := by
  have hl := tour_len hp
  have h1 := rest_lt hp (by rw [hl]; exact hS) hc h0
  have h2 := rest_clo hp (by rw [hl]; exact hS) hc
  rw [hl] at h1 h2
  exact ⟨h1, h2⟩
theorem parts_step (hp : tourP n xs) {S : Nat} (hS : S < 2 ^ n) (hc : clo xs S) (h0 : S ≠ 0) : partsN xs S = topF xs n S :: partsN xs (less S (topF xs n S)) := by
  have := partsN_step hp (by rw [tour_len hp]; exact hS) hc h0
  rwa [tour_len hp] at this
theorem parts_card (hp : tourP n xs) : ∀ B S, S < B → S < 2 ^ n → clo xs S → (partsN xs S).length ≤ cardN S n ∧ ((partsN xs S).length = cardN S n → ∀ P ∈ partsN xs S, cardN P n = 1) := by
  intro B
  induction B with
  | zero => intro S h; omega
  | succ B ih =>
    intro S hB hS hc
    by_cases h0 : S = 0
    · subst h0; rw [partsN_zero]; simp
    · obtain ⟨h1, h2⟩ := rest_n hp hS hc h0
      obtain ⟨h3, h4⟩ := ih (less S (topF xs n S)) (by omega) (by omega) h2
      have h5 := card_split (top_sub xs n S) n
      obtain ⟨b, hb, hbt⟩ := top_ex hp hS hc h0
      have h6 := card_pos hb hbt
      rw [parts_step hp hS hc h0, List.length_cons]
      refine ⟨by omega, fun e P hP => ?_⟩
      rcases List.mem_cons.1 hP with rfl | hP
      · omega
      · exact h4 (by omega) P hP
/-- who is in the set is in a part, with all who reach the same -/
theorem parts_mem (hp : tourP n xs) : ∀ B S, S < B → S < 2 ^ n → clo xs S → ∀ c, S.testBit c = true → ∃ P ∈ partsN xs S, P.testBit c = true ∧ ∀ d, d < n → reachN xs d = reachN xs c → P.testBit d = true := by
  intro B
  induction B with
  | zero => intro S h; omega
  | succ B ih =>
    intro S hB hS hc c hcS
    have h0 : S ≠ 0 := fun e => by subst e; simp at hcS
    obtain ⟨h1, h2⟩ := rest_n hp hS hc h0
    rw [parts_step hp hS hc h0]
    by_cases ht : (topF xs n S).testBit c = true
    · refine ⟨_, by simp, ht, fun d hd e => ?_⟩
      rw [testBit_topF] at ht ⊢
      simp only [Bool.and_eq_true, decide_eq_true_eq, beq_iff_eq] at ht ⊢
      have hdd := (reach_facts hp (by rw [tour_len hp]; exact hd) (a := d)).1
      rw [e, ht.2.2] at hdd
      exact ⟨hd, hdd, by rw [e]; exact ht.2.2⟩
    · have hr : (less S (topF xs n S)).testBit c = true := by
        rw [testBit_less, hcS]
        simp only [Bool.not_eq_true] at ht
        rw [ht]; rfl
      obtain ⟨P, hP, h3⟩ := ih (less S (topF xs n S)) (by omega) (by omega) h2 c hr
      exact ⟨P, List.mem_cons_of_mem _ hP, h3⟩
def transP (xs : List Int) (n : Nat) : Prop := ∀ a b c, a < n → b < n → c < n → bt xs a b = true → bt xs b c = true → bt xs a c = true
theorem trans_reach (hp : tourP n xs) (ht : transP xs n) {a c : Nat} (ha : a < n) (h : (reachN xs a).testBit c = true) : c = a ∨ bt xs a c = true := by
  have hl := tour_len hp
  have hT : clo xs (winsN xs a ||| 2 ^ a) := fun b d hb hd => by
    rw [Nat.testBit_or, Nat.testBit_two_pow] at hb ⊢
    simp only [Bool.or_eq_true, decide_eq_true_eq] at hb ⊢
    have hbn : b < n := by
      rcases hb with h | h
      · exact bt_hi hp ha h
      · omega
    have hdn : d < n := bt_hi hp hbn hd
    rcases hb with h | rfl
    · exact .inl (ht a b d ha hbn hdn h hd)
    · exact .inl hd
  have := (reach_facts hp (by rw [hl]; exact ha) (a := a)).2.2.1 _ hT (by rw [Nat.testBit_or, Nat.testBit_two_pow]; simp) c h
  rw [Nat.testBit_or, Nat.testBit_two_pow] at this
  simp only [Bool.or_eq_true, decide_eq_true_eq] at this
  rcases this with h | h
  · exact .inr h
  · exact .inl h.symm
theorem trans_top (hp : tourP n xs) (ht : transP xs n) {S : Nat} (hS : S < 2 ^ n) (hc : clo xs S) (h0 : S ≠ 0) : cardN (topF xs n S) n = 1 := by
  obtain ⟨b, hb, hbt⟩ := top_ex hp hS hc h0
  have h1 := card_pos hb hbt
  have h2 : cardN (topF xs n S) n ≤ 1 := card_uniq fun c d hc' hd' h3 h4 => by
    rw [testBit_topF] at h3 h4
    simp only [Bool.and_eq_true, decide_eq_true_eq, beq_iff_eq] at h3 h4
    rcases trans_reach hp ht hc' (c := d) (by rw [h3.2.2]; exact h4.2.1) with e | e
    · exact e.symm
    · rcases trans_reach hp ht hd' (c := c) (by rw [h4.2.2]; exact h3.2.1) with e' | e'
      · exact e'
      · rw [(bt_asym hp hc' hd' e).1] at e'; cases e'
  omega
theorem trans_parts (hp : tourP n xs) (ht : transP xs n) : ∀ B S, S < B → S < 2 ^ n → clo xs S → (partsN xs S).length = cardN S n := by
  intro B
  induction B with
  | zero => intro S h; omega
  | succ B ih =>
    intro S hB hS hc
    by_cases h0 : S = 0
    · subst h0; rw [partsN_zero]; unfold cardN memN; rw [List.filter_eq_nil_iff.2 (by simp)]
    · obtain ⟨h1, h2⟩ := rest_n hp hS hc h0
      have h3 := ih (less S (topF xs n S)) (by omega) (by omega) h2
      have h5 := card_split (top_sub xs n S) n
      have h6 := trans_top hp ht hS hc h0
      rw [parts_step hp hS hc h0, List.length_cons]
      omega
theorem clo_all (hp : tourP n xs) : clo xs (2 ^ n - 1) := fun b c h hc => by
  rw [testBit_full, decide_eq_true_eq] at h ⊢
  exact bt_hi hp h hc
theorem reach_eq (hp : tourP n xs) {a b : Nat} (ha : a < n) (hb : b < n) (h1 : (reachN xs a).testBit b = true) (h2 : (reachN xs b).testBit a = true) : reachN xs a = reachN xs b := by
  have fa := reach_facts hp (by rw [tour_len hp]; exact ha) (a := a)
  have fb := reach_facts hp (by rw [tour_len hp]; exact hb) (a := b)
  exact sub_eq (fa.2.2.1 _ fb.2.1 h2) (fb.2.2.1 _ fa.2.1 h1)
theorem reach_step (hp : tourP n xs) {a b c : Nat} (ha : a < n) (h : (reachN xs a).testBit b = true) (hbc : bt xs b c = true) : (reachN xs a).testBit c = true :=
  (reach_facts hp (by rw [tour_len hp]; exact ha) (a := a)).2.1 b c h hbc
/-- as many parts as players: the tour is transitive -/
theorem trans_iff (hp : tourP n xs) : (partsN xs (2 ^ n - 1)).length = n ↔ transP xs n := by
  have hlt : 2 ^ n - 1 < 2 ^ n := by have := Nat.one_le_two_pow (n := n); omega
  constructor
  · intro e a b c ha hb hc hab hbc
    have hac : a ≠ c := fun e2 => by subst e2; rw [(bt_asym hp ha hb hab).1] at hbc; cases hbc
    rcases q : bt xs a c with _ | _
    · exfalso
      have hca := (bt_flip hp hc ha (Ne.symm hac)).2 q
      have raa := (reach_facts hp (by rw [tour_len hp]; exact ha) (a := a)).1
      have rbb := (reach_facts hp (by rw [tour_len hp]; exact hb) (a := b)).1
      have r1 := reach_step hp ha raa hab
      have r2 := reach_step hp hb (reach_step hp hb rbb hbc) hca
      have re := reach_eq hp ha hb r1 r2
      obtain ⟨P, hP, h1, h2⟩ := parts_mem hp _ _ (Nat.lt_succ_self _) hlt (clo_all hp) a (by rw [testBit_full]; simp [ha])
      have h3 := h2 b hb re.symm
      have h4 := (parts_card hp _ _ (Nat.lt_succ_self _) hlt (clo_all hp)).2 (by rw [e, card_full]) P hP
      have h5 := card_two ha hb h1 h3 (bt_asym hp ha hb hab).2
      omega
    · rfl
  · intro ht
    rw [trans_parts hp ht _ _ (Nat.lt_succ_self _) hlt (clo_all hp), card_full]
end
end Go.Proofs.Ytkhjdijdcjgpfaa

namespace Go.Proofs.Ytkhjdijdcjgpfaa
open Go.RowKit Go.Sort
set_option maxRecDepth 100000

def toQ (p : Nat → Nat → Bool) (a b : Nat) : Bool := !(a == b) && p a b
def toL (p : Nat → Nat → Bool) (n : Nat) : List Int := (List.range n).map fun a => ((setOf (toQ p a) n : Nat) : Int)
theorem toL_len (p : Nat → Nat → Bool) (n : Nat) : (toL p n).length = n := by simp [toL]
/-- the rows that grow -/
def toRow (p : Nat → Nat → Bool) (N : List Int) (n a j : Nat) : Prop := ∀ i, i < n → N.getD i 0 = if i < a then ((setOf (toQ p i) n : Nat) : Int) else if i = a then ((setOf (toQ p a) j : Nat) : Int) else 0
theorem toRow_start {p : Nat → Nat → Bool} {n : Nat} : toRow p (List.replicate n 0) n 0 0 := fun i hi => by
  have : (List.replicate n (0 : Int)).getD i 0 = 0 := by simp [hi]
  rw [this]; simp [setOf]
theorem toRow_next {p : Nat → Nat → Bool} {N : List Int} {n a : Nat} (h : toRow p N n a n) : toRow p N n (a + 1) 0 := fun i hi => by
  rw [h i hi]
  by_cases h1 : i < a
  · rw [if_pos h1, if_pos (by omega)]
  · rw [if_neg h1]
    by_cases h2 : i = a
    · subst h2; rw [if_pos rfl, if_pos (by omega)]
    · rw [if_neg h2, if_neg (by omega)]; simp [setOf]
theorem toRow_no {p : Nat → Nat → Bool} {N : List Int} {n a j : Nat} (h : toRow p N n a j) (hq : toQ p a j = false) : toRow p N n a (j + 1) := fun i hi => by
  rw [h i hi]
  simp [setOf, hq]
theorem toRow_at {p : Nat → Nat → Bool} {N : List Int} {n a j : Nat} (h : toRow p N n a j) (ha : a < n) : N.getD a 0 = ((setOf (toQ p a) j : Nat) : Int) := by
  rw [h a ha, if_neg (by omega), if_pos rfl]
theorem setOf_or {q : Nat → Bool} {j : Nat} (hj : j ≤ 60) (hq : q j = true) : setOf q j ||| 2 ^ j = setOf q (j + 1) := by
  have h1 := setOf_lt q j
  have h2 : (setOf q j).testBit j = false := Nat.testBit_lt_two_pow h1
  have h3 : setOf q j < 2 ^ 62 := Nat.lt_of_lt_of_le h1 (Nat.pow_le_pow_right (by decide) (by omega))
  rw [← add_or h3 (by omega) h2]
  simp [setOf, hq]
theorem toRow_yes {p : Nat → Nat → Bool} {N : List Int} {n a j : Nat} {v : Nat} (hl : N.length = n) (h : toRow p N n a j) (ha : a < n) (hv : v = setOf (toQ p a) (j + 1)) : toRow p (N.set a v) n a (j + 1) := fun i hi => by
  by_cases h2 : i = a
  · subst h2
    rw [getD_set_same _ (by omega), if_neg (by omega), if_pos rfl, hv]
  · rw [getD_set_other _ (Ne.symm h2), h i hi, if_neg h2, if_neg h2]
theorem toRow_end {p : Nat → Nat → Bool} {N : List Int} {n : Nat} (hl : N.length = n) (h : toRow p N n n 0) : N = toL p n :=
  list_ext0 hl (toL_len p n) fun i hi => by
    rw [h i hi, if_pos hi]
    simp [toL, hi]
set_option maxHeartbeats 4000000 in
theorem tourOf_any (n : Nat) (hn1 : 1 ≤ n) (hn : n ≤ 8) (F : FuncId) (caps : Array Value) (hE : Enters F) (p : Nat → Nat → Bool) (w : World)
    (hf : ∀ a b, a < n → b < n → ∀ w', Below w.heap.size w w' → Calls Try.prog F (#[.int .i64 a, .int .i64 b] ++ caps) w' fun e w'' => e = .returned (.bool (p a b)) ∧ Below w'.heap.size w' w'') :
    Calls Try.prog 92 #[.int .i64 n, .func (.func F) #[] caps] w fun e w' => ∃ sl', e = .returned (.agg #[.int .i64 n, sl']) ∧ Own w' w.heap.size sl' (toL p n) ∧ Below w.heap.size w w' := by
  obtain ⟨i0, hi, hz0, hz1, hz2⟩ := info_parts i64_info
  have HF := Lib.hid hf
  clear hf
  have hE' : ∀ (args : Array Value) (W : World), (callFunc F args).run Try.prog W = .ok (.enter F args) W := hE
  have hT0 := BoxF.new w 0 (.slice none 0 0) 25
  have HT0 := Lib.hid hT0
  have HB0 := Lib.hid (below_alloc1 w (.cells #[.int .i64 0, .slice none 0 0] 25))
  clear hT0
  go_enter Try.func92, Try.ntmps92
  go_wp2_with (at_make; refine wpList_make_full _ rfl _ _ 23 rfl (w.alloc (.cells #[.int .i64 0, .slice none 0 0] 25)).heap.size 3 i0 (.int .i64 0) 1 Try.underlying23 hi hz0 hz1 _ _ _ _ n rfl rfl rfl rfl (by rw [hz2]; omega) (by unfold maxLen; omega) (Nat.le_refl _) ?_; intro w1 hown hg1; have hb1 : Below (w.alloc (.cells #[.int .i64 0, .slice none 0 0] 25)).heap.size (w.alloc (.cells #[.int .i64 0, .slice none 0 0] 25)) w1 := (Below.refl _ _).grown hg1 (Nat.le_refl _) (by simp); have HT1 := Lib.hid (HT0.out.below hb1); have HB1 := Lib.hid (Below.then HB0.out hb1); have HOWN := Lib.hid hown; have hsz1 := hb1.size; clear hown hg1 hb1)
  simp only [World.size_alloc] at HOWN hsz1
  have hgl := (World.ownsRow.lt HOWN.out (w.heap.size + 1) rfl).2
  have bU := below_alloc1 w1 (.cells #[.int .i64 n, .slice (some ⟨w.heap.size + 1, 0, none⟩) n n] 25)
  have HU2 := Lib.hid (BoxF.new w1 n (.slice (some ⟨w.heap.size + 1, 0, none⟩) n n) 25)
  have HT2 := Lib.hid (HT1.out.below bU)
  have HB2 := Lib.hid (Below.then HB1.out bU)
  have HO2 : Hid (Own (w1.alloc (.cells #[.int .i64 n, .slice (some ⟨w.heap.size + 1, 0, none⟩) n n] 25)) (w.heap.size + 1) (.slice (some ⟨w.heap.size + 1, 0, none⟩) n n) (List.replicate n 0)) := by
    have ho := HOWN.out
    rw [ints_made'] at ho
    refine Own.below (w := w1) ?_ bU
    unfold Own
    rw [List.length_replicate]
    exact ho
  generalize w1.alloc (.cells #[.int .i64 n, .slice (some ⟨w.heap.size + 1, 0, none⟩) n n] 25) = w2 at *
  generalize hgt : w1.heap.size = gt at *
  generalize hgl' : w.heap.size + 1 = gl at *
  have HG : Hid (gl = w.heap.size + 1) := hgl'.symm
  clear bU HOWN HT1 HB1 HT0 HB0 hgt hgl'
  have hgg : gl < gt := by omega
  go_loopw [13] (fun i wr => ∃ (a : Nat) (N : List Int), a ≤ n ∧ i = .int .i64 a ∧ N.length = n ∧ Own wr gl (.slice (some ⟨gl, 0, none⟩) n n) N ∧ Hid (toRow p N n a 0) ∧ BoxF wr gt n (.slice (some ⟨gl, 0, none⟩) n n) ∧ BoxF wr w.heap.size 0 (.slice none 0 0) ∧ Below w.heap.size w wr) (fun i _ => n - (intOf i).toNat)
  case atStart => exact ⟨0, _, by omega, rfl, by simp, HO2.out, toRow_start, HU2.out, HT2.out, HB2.out⟩
  case round =>
    obtain ⟨wa, rfl⟩ : ∃ x, x = wr := ⟨_, rfl⟩
    obtain ⟨a, N, ha, rfl, hNl, hown, HP, hu, ht, hb⟩ := hrel
    have HOa := Lib.hid hown
    have HUa := Lib.hid hu
    have HTa := Lib.hid ht
    have HBa := Lib.hid hb
    clear hown hu ht hb
    by_cases hlta : a < n
    · go_wp2
      go_loopw [17] (fun i wr => ∃ (b : Nat) (N : List Int), b ≤ n ∧ i = .int .i64 b ∧ N.length = n ∧ Own wr gl (.slice (some ⟨gl, 0, none⟩) n n) N ∧ Hid (toRow p N n a b) ∧ BoxF wr gt n (.slice (some ⟨gl, 0, none⟩) n n) ∧ BoxF wr w.heap.size 0 (.slice none 0 0) ∧ Below w.heap.size w wr) (fun i _ => n - (intOf i).toNat)
      case atStart => exact ⟨0, N, by omega, rfl, hNl, HOa.out, HP, HUa.out, HTa.out, HBa.out⟩
      case round =>
        obtain ⟨b, M, hbn, rfl, hMl, hown, HP2, hu, ht, hb⟩ := hrel
        have HO := Lib.hid hown
        have HU := Lib.hid hu
        have HT := Lib.hid ht
        have HB := Lib.hid hb
        clear hown hu ht hb
        by_cases hltb : b < n
        · by_cases hab : a = b
          · subst hab
            have hq : toQ p a a = false := by simp [toQ]
            have HR := Lib.hid (toRow_no HP2.out hq)
            have hne : ((a : Int) != (a : Int)) = false := by simp
            go_wp2
            go_roundw
            case rel => exact ⟨a + 1, M, by omega, by go_num, hMl, HO.out, HR.out, HU.out, HT.out, HB.out⟩
            case measure => simp [intOf]; omega
          · have hne : ((a : Int) != (b : Int)) = true := by simp; omega
            go_wp2_with fail
            refine (HF.out a b hlta hltb _ HB.out).mono ?_
            rintro e w5 ⟨rfl, hb5⟩
            have HO5 := Lib.hid (HO.out.below hb5)
            have HU5 := Lib.hid (HU.out.below hb5)
            have HT5 := Lib.hid (HT.out.below hb5)
            have HB5 := Lib.hid (Below.then HB.out hb5)
            clear hb5 HO HU HT HB
            rcases hq1 : p a b with _ | _
            · have hq : toQ p a b = false := by simp [toQ, hq1]
              have HR := Lib.hid (toRow_no HP2.out hq)
              go_wp2
              go_roundw
              case rel => exact ⟨b + 1, M, by omega, by go_num, hMl, HO5.out, HR.out, HU5.out, HT5.out, HB5.out⟩
              case measure => simp [intOf]; omega
            · have hq : toQ p a b = true := by simp [toQ, hq1, hab]
              have za := (HO5.out.at1 hMl (by omega)).1 a hlta
              rw [toRow_at HP2.out hlta] at za
              have hS := setOf_small (toQ p a) (show b ≤ 8 by omega)
              have HS := Lib.hid (setOf_or (j := b) (by omega) hq)
              have hor := or_shl (setOf (toQ p a) b) b (by omega) (by omega)
              have hS2 := setOf_small (toQ p a) (show b + 1 ≤ 8 by omega)
              rw [HS.out] at hor
              generalize hX : setOf (toQ p a) (b + 1) = X at *
              have HX := Lib.hid hX
              generalize setOf (toQ p a) b = S at *
              go_wp2_with fail
              have c1 := cell_regrown HU5.out.1.2
              have c2 := cell_regrown za
              clear za hX hq hq1
              refine wp_region_below_tail 9 (by kernel_rfl) (by kernel_rfl) ?_
              simp only [List.take_succ_cons, List.take_zero, List.drop_succ_cons, List.drop_zero]
              repeat (go_big_quiet_step (first | (with_reducible fail)))
              refine wpQuiet_nil ?_
              intro wq hbq0
              have hbq := Lib.hid hbq0
              clear hbq0
              clear c1 c2 hor
              have O2 := HO5.out.below hbq.out
              obtain ⟨hx2, hf2⟩ := O2.at1 hMl (by omega)
              have za := hx2 a hlta
              have fa := hf2 a
              have O3 := (O2.set_ hMl a (X : Int)).1
              have HO3 := Lib.hid O3
              have HU3 := Lib.hid ((HU5.out.below hbq.out).kept (setCell_grown _ ⟨gl, a, none⟩ (.int .i64 X)) (by simp; omega))
              have HT3 := Lib.hid ((HT5.out.below hbq.out).kept (setCell_grown _ ⟨gl, a, none⟩ (.int .i64 X)) (by have := HG.out; simp; omega))
              have HB3 := Lib.hid ((Below.then HB5.out hbq.out).setCell (p := ⟨gl, a, none⟩) (show w.heap.size ≤ gl by have := HG.out; omega) (.int .i64 X))
              clear hx2 hf2 O2 O3 HO5 HU5 HT5 HB5 hbq
              go_wp2
              go_roundw
              case rel => exact ⟨b + 1, M.set a X, by omega, by go_num, by simp [hMl], HO3.out, toRow_yes hMl HP2.out hlta HX.out.symm, HU3.out, HT3.out, HB3.out⟩
              case measure => simp [intOf]; omega
        · obtain rfl : n = b := by omega
          have HR := Lib.hid (toRow_next HP2.out)
          go_wp2
          go_roundw
          case rel => exact ⟨a + 1, M, by omega, by go_num, hMl, HO.out, HR.out, HU.out, HT.out, HB.out⟩
          case measure => simp [intOf]; omega
    · obtain rfl : n = a := by omega
      have HE := Lib.hid (toRow_end hNl HP.out)
      have u0 := HUa.out.1.1
      have u1 := HUa.out.1.2
      have v0 := HTa.out.1.1
      have v1 := HTa.out.1.2
      have f0 := HTa.out.2 0
      have f1 := HTa.out.2 1
      have hw2 := HUa.out.gt
      have hgg2 : gt ≠ w.heap.size := by have := HG.out; omega
      have hgg3 : w.heap.size < gl := by have := HG.out; omega
      have HOx := Lib.hid ((HOa.out.kept (setCell_grown _ ⟨w.heap.size, 0, none⟩ (.int .i64 n)) (own_ne (fun k hk => (HOa.out.lt k hk).1) hgg3)).kept (setCell_grown _ ⟨w.heap.size, 1, none⟩ (.slice (some ⟨gl, 0, none⟩) n n)) (own_ne (fun k hk => (HOa.out.lt k hk).1) hgg3))
      have HBx := Lib.hid ((HBa.out.setCell (p := ⟨w.heap.size, 0, none⟩) (Nat.le_refl _) (.int .i64 n)).setCell (p := ⟨w.heap.size, 1, none⟩) (Nat.le_refl _) (.slice (some ⟨gl, 0, none⟩) n n))
      have R0 : Hid (((wa.setCell ⟨w.heap.size, 0, none⟩ (.int .i64 n)).setCell ⟨w.heap.size, 1, none⟩ (.slice (some ⟨gl, 0, none⟩) n n)).cell? ⟨w.heap.size, 0, none⟩ = some (.int .i64 n)) := (World.cell?_setCell_other _ _ _ _ (by simp)).trans (World.cell?_setCell_same _ _ _ v0)
      have R1 : Hid (((wa.setCell ⟨w.heap.size, 0, none⟩ (.int .i64 n)).setCell ⟨w.heap.size, 1, none⟩ (.slice (some ⟨gl, 0, none⟩) n n)).cell? ⟨w.heap.size, 1, none⟩ = some (.slice (some ⟨gl, 0, none⟩) n n)) := World.cell?_setCell_same _ _ _ ((World.cell?_setCell_other _ _ _ _ (by simp)).trans v1)
      go_wp2
      have r0 := R0.out
      have r1 := R1.out
      refine bodyPost_ret (v := .agg #[.int .i64 n, .slice (some ⟨gl, 0, none⟩) n n]) (by simp only [results, Try.results92]; simp [go_sem, r0, r1]) rfl ⟨_, rfl, ?_, HBx.out⟩
      rw [← HE.out]
      exact HOx.out.mono (by omega)
end Go.Proofs.Ytkhjdijdcjgpfaa

namespace Go.Proofs.Ytkhjdijdcjgpfaa
open Go.RowKit Go.Sort
set_option maxRecDepth 100000
def nI (l : List Nat) : List Int := l.map fun (a : Nat) => (a : Int)
theorem nI_len (l : List Nat) : (nI l).length = l.length := by simp [nI]
theorem nI_getD {l : List Nat} {k : Nat} (h : k < l.length) : (nI l).getD k 0 = ((l.getD k 0 : Nat) : Int) := by simp [nI, h]
theorem nI_snoc (l : List Nat) (b : Nat) : nI (l ++ [b]) = nI l ++ [(b : Int)] := by simp [nI]
def lastN (way : List Nat) : Nat := way.getD (way.length - 1) 0
def cand (xs : List Int) (n : Nat) (way : List Nat) : List Nat := (memN (winsN xs (lastN way)) n).filter fun b => !way.contains b
def dfs (xs : List Int) (n : Nat) (want : List Nat → Bool) : Nat → List Nat → Option (List Nat)
  | 0, way => if want way = true then some way else none
  | m + 1, way => (cand xs n way).findSome? fun b => dfs xs n want m (way ++ [b])
theorem fs_hit {β : Type} {l : List Nat} {F : Nat → Option β} {k : Nat} {y : β} (hk : k < l.length) (h0 : ∀ j, j < k → F (l.getD j 0) = none) (hy : F (l.getD k 0) = some y) : l.findSome? F = some y := by
  have e : l = l.take k ++ l.getD k 0 :: l.drop (k + 1) := by
    rw [getD_nat hk, ← List.drop_eq_getElem_cons hk, List.take_append_drop]
  have h1 : (l.take k).findSome? F = none := by
    rw [List.findSome?_eq_none_iff]
    intro x hx
    obtain ⟨j, hj, rfl⟩ := List.getElem_of_mem hx
    rw [List.length_take] at hj
    have := h0 j (by omega)
    rw [getD_nat (show j < l.length by omega)] at this
    simpa using this
  rw [e, List.findSome?_append, h1, List.findSome?_cons, hy]
  rfl
theorem fs_miss {β : Type} {l : List Nat} {F : Nat → Option β} (h0 : ∀ j, j < l.length → F (l.getD j 0) = none) : l.findSome? F = none := by
  rw [List.findSome?_eq_none_iff]
  intro x hx
  obtain ⟨j, hj, rfl⟩ := List.getElem_of_mem hx
  have := h0 j hj
  rwa [getD_nat hj] at this
theorem dfs_len {xs : List Int} {n : Nat} {want : List Nat → Bool} : ∀ {m : Nat} {way L : List Nat}, dfs xs n want m way = some L → L.length = way.length + m := by
  intro m
  induction m with
  | zero =>
    intro way L h
    rw [dfs] at h
    split at h
    · injection h with h; subst h; rfl
    · cases h
  | succ m ih =>
    intro way L h
    rw [dfs] at h
    obtain ⟨b, -, hb⟩ := List.exists_of_findSome?_eq_some h
    have := ih hb
    rw [List.length_append, List.length_singleton] at this
    omega
def setW (way : List Nat) : Nat := way.foldl (fun s b => s ||| 2 ^ b) 0
theorem setW_snoc (l : List Nat) (b : Nat) : setW (l ++ [b]) = setW l ||| 2 ^ b := by simp [setW, List.foldl_append]
theorem take_snocN' {l : List Nat} {k : Nat} (hk : k < l.length) : l.take (k + 1) = l.take k ++ [l.getD k 0] := by
  rw [List.take_succ_eq_append_getElem hk, getD_nat hk]
theorem testBit_setW (l : List Nat) (j : Nat) : (setW l).testBit j = l.contains j := by
  have : ∀ k, k ≤ l.length → (setW (l.take k)).testBit j = (l.take k).contains j := by
    intro k
    induction k with
    | zero => intro _; simp [setW]
    | succ k ih =>
      intro hk
      rw [take_snocN' (by omega), setW_snoc, Nat.testBit_or, ih (by omega), Nat.testBit_two_pow, Bool.eq_iff_iff]
      simp
      exact ⟨fun h => h.imp id Eq.symm, fun h => h.imp id Eq.symm⟩
  have := this l.length (Nat.le_refl _)
  rwa [List.take_length] at this
theorem setW_lt {l : List Nat} {n : Nat} (h : ∀ x ∈ l, x < n) : setW l < 2 ^ n := by
  apply Nat.lt_pow_two_of_testBit
  intro i hi
  rw [testBit_setW]
  rcases q : l.contains i with _ | _
  · rfl
  · have := h i (by simpa using q); omega
theorem memN_lessW (S n : Nat) (way : List Nat) : memN (less S (setW way)) n = (memN S n).filter fun b => !way.contains b := by
  unfold memN
  rw [List.filter_filter]
  refine List.filter_congr fun x _ => ?_
  rw [testBit_less, testBit_setW, Bool.and_comm]
theorem cand_lt {xs : List Int} {n : Nat} {way : List Nat} {b : Nat} (h : b ∈ cand xs n way) : b < n ∧ (winsN xs (lastN way)).testBit b = true ∧ ¬ b ∈ way := by
  unfold cand at h
  rw [List.mem_filter] at h
  exact ⟨(mem_memN.1 h.1).1, (mem_memN.1 h.1).2, by simpa using h.2⟩
theorem or_shl'' (S a : Nat) (hS : S < 4611686018427387904) (h : a ≤ 61) : bits .or .i64 (S : Int) (wrap64 (2 ^ a)) = ((S ||| 2 ^ a : Nat) : Int) := or_shl S a hS h
set_option maxHeartbeats 1000000 in
theorem isetOf_any (v : Value) (way : List Nat) (w : World) (h : Rd w v (nI way)) (hb : ∀ x ∈ way, x < 8) :
    Calls Try.prog 106 #[v] w fun e w' => e = .returned (.int .i64 (setW way : Nat)) ∧ w = w' := by
  obtain ⟨A, c, rfl, hl, hm, hc⟩ := h
  rw [nI_len] at hl hc
  unfold maxLen at hm
  have HC := Lib.hid hc
  have HB := Lib.hid hb
  rw [nI_len]
  generalize hn : way.length = n at *
  have HN := Lib.hid hn
  clear hc hb hn
  go_enter Try.func106, Try.ntmps106
  go_wp2
  go_loop [3, 8] (fun s i => ∃ k : Nat, k ≤ n ∧ i = .int .i64 k ∧ s = .int .i64 (setW (way.take k) : Nat)) (fun _ i => n - (intOf i).toNat)
  case atStart => exact ⟨0, by omega, rfl, by simp [setW]⟩
  case round =>
    obtain ⟨k, hk, rfl, rfl⟩ := hrel
    by_cases hlt : k < n
    · obtain ⟨g, off, rfl, hg, hx⟩ := HC.out (by omega)
      have hxk := hx k hlt
      have hkl : k < way.length := by rw [HN.out]; exact hlt
      rw [nI_getD hkl] at hxk
      have hlt8 : way.getD k 0 < 8 := HB.out _ (by rw [getD_nat hkl]; exact List.getElem_mem _)
      have hs := setW_lt (l := way.take k) (n := 8) fun x hx => HB.out x (List.mem_of_mem_take hx)
      have HS : Hid (setW (way.take (k + 1)) = setW (way.take k) ||| 2 ^ way.getD k 0) := by unfold Hid; rw [take_snocN' hkl, setW_snoc]
      clear hx
      generalize way.getD k 0 = b at *
      generalize setW (way.take k) = S at *
      have hor := or_shl S b (by omega) (by omega)
      go_wp2
      go_round
      case rel => exact ⟨k + 1, by omega, by go_num, by rw [HS.out]⟩
      case measure => simp [intOf]; omega
    · obtain rfl : n = k := by omega
      have HE : Hid (way.take n = way) := List.take_of_length_le (by rw [HN.out]; exact Nat.le_refl _)
      rw [HE.out]
      go_wp2
      go_ret
      exact ⟨rfl, rfl⟩
theorem own_prefix {w : World} {base g n c : Nat} {xs : List Int} {y : Int} (hn : xs.length = n) (h : Own w base (.slice (some ⟨g, 0, none⟩) (n + 1) c) (xs ++ [y])) : Own w base (.slice (some ⟨g, 0, none⟩) n c) xs := by
  subst hn
  refine ⟨by simp, .inr ?_⟩
  rcases h.2 with ⟨e, -⟩ | ⟨g', cap, cur, e, hb, hh, hle, hm, hs, ht⟩
  · cases e
  · injection e with e1 e2 e3
    injection e1 with e1
    injection e1 with e1 _ _
    subst e1 e3
    refine ⟨g, c, cur, rfl, hb, hh, by simp at hle; omega, hm, hs, ?_⟩
    have h1 := congrArg (List.take xs.length) ht
    rw [List.take_take] at h1
    simp at h1
    simpa using h1
theorem run_append1k (w : World) (ty : TypeId) (base : Nat) (v : Value) (xs : List Int) (y : Int) (gx : Nat) (hown : Own w base v xs) (hc : w.cell? ⟨gx, 0, none⟩ = some (.int .i64 y)) (hlen : xs.length ≤ 1099511627776) (hbase : base ≤ w.heap.size) :
    ∃ g c w', (Builtin.append_ #[23, 23] ty #[v, .slice (some ⟨gx, 0, none⟩) 1 1]).run Try.prog w = .ok (.slice (some ⟨g, 0, none⟩) (xs.length + 1) c) w' ∧
      Own w' base (.slice (some ⟨g, 0, none⟩) (xs.length + 1) c) (xs ++ [y]) ∧ Own w' base v xs ∧ w.grownBy w' v.ownBlock ∧ (v = .slice (some ⟨g, 0, none⟩) xs.length c ∨ g = w.heap.size) := by
  obtain ⟨i0, hi, hz0, hz1, hz2⟩ := info_parts i64_info
  have hnews : ∀ j u, [Value.int .i64 y][j]? = some u → w.cell? ((⟨gx, 0, none⟩ : Addr).add j) = some u := by
    intro j u hj
    match j, hj with
    | 0, hj => simp at hj; subst hj; simpa [Addr.add] using hc
  have h1 : ∀ u ∈ [Value.int .i64 y], u.oneCell' = true := by intro u hu; simp at hu; subst hu; rfl
  obtain ⟨v', w', hr, h2, h3, -, h5⟩ := run_append_own_at (P := Try.prog) w base 23 ty 3 i0 (.int .i64 0) 1 8 Try.underlying23 hi hz0 hz1 hz2 rfl (by decide) v xs.length (xs.map (Value.int .i64)) hown ⟨gx, 0, none⟩ 1 1 [.int .i64 y] rfl hnews h1 (by unfold maxLen; omega) (by omega) hbase
  have h2' : Own w' base v' (xs ++ [y]) := by unfold Own; rw [List.length_append, List.map_append]; exact h2
  obtain ⟨A, c', e, -, -, hA⟩ := h2'.form
  obtain ⟨g', rfl, -, -⟩ := hA (by simp)
  rw [List.length_append, List.length_singleton] at e
  subst e
  rcases hown.2 with ⟨rfl, h0⟩ | ⟨g, cap, cur, rfl, hbg, hg, hnc, hcm, hcs, htake⟩
  · refine ⟨g', c', w', hr, h2', ?_, h3, .inr ?_⟩
    · rw [show xs = [] from List.eq_nil_of_length_eq_zero h0]; exact Own.nil_ _ _
    · rcases h5 with h | h
      · simp [Value.ownBlock] at h
      · simpa [Value.ownBlock] using h
  · by_cases hroom : xs.length + 1 ≤ cap
    · have hr' := run_append_room (P := Try.prog) w 23 ty 3 i0 Try.underlying23 hi g xs.length cap cur hg ⟨gx, 0, none⟩ 1 1 [.int .i64 y] (by rw [hz1]; rfl) hnews h1 hroom (by rw [hz1]; simp; omega)
      have e := hr.symm.trans hr'
      injection e with e1 e2
      injection e1 with e1 e3 e4
      injection e1 with e1
      injection e1 with e1 _ _
      subst e1 e4
      exact ⟨g', c', w', hr, h2', own_prefix rfl h2', h3, .inl rfl⟩
    · have hr' := run_append_grow (P := Try.prog) w 23 ty 3 i0 (.int .i64 0) Try.underlying23 hi hz0 ⟨g, 0, none⟩ xs.length cap (xs.map (Value.int .i64)) (by rw [hz1]; simp) (hown.cells (g := g) rfl) ⟨gx, 0, none⟩ 1 1 [.int .i64 y] (by rw [hz1]; rfl) hnews (by omega) (by omega) (growslice_fits (by omega) (by rw [hz2]; omega))
      have e := hr.symm.trans hr'
      injection e with e1 e2
      injection e1 with e1 e3 e4
      injection e1 with e1
      injection e1 with e1 _ _
      subst e1 e2
      exact ⟨_, c', _, hr, h2', World.ownsRow.alloc (World.ownsRow.drew hown) _, h3, .inr rfl⟩
theorem step_append1k {ops : Array Oper} {o : Oper} {a : Act} {K : Act → World → Prop} {Q : Exit → Act → World → Prop} {E : Prop} (w : World) (hgd : o.guard = none) (s x : Operand)
    (ho : o.op = .call { callee := .builtin .append, args := #[s, x], argTypes := #[23, 23] })
    (base : Nat) (v : Value) (xs : List Int) (n : Nat) (hn : xs.length = n) (y : Int) (gx : Nat) (hs : a.eval s = v) (hown : Own w base v xs) (hx : a.eval x = .slice (some ⟨gx, 0, none⟩) 1 1) (hc : w.cell? ⟨gx, 0, none⟩ = some (.int .i64 y))
    (hlen : n ≤ 1099511627776) (hbase : base ≤ w.heap.size)
    (h : ∀ g c w', Own w' base (.slice (some ⟨g, 0, none⟩) (n + 1) c) (xs ++ [y]) → Own w' base v xs → w.grownBy w' v.ownBlock → (v = .slice (some ⟨g, 0, none⟩) n c ∨ g = w.heap.size) → K (a.put o.dst (.slice (some ⟨g, 0, none⟩) (n + 1) c)) w') :
    if Region.wanted o (yielded ops a.tmps) = true then Oper.wp Try.prog o a w K Q else E := by
  subst hn
  have hw : Region.wanted o (yielded ops a.tmps) = true := by simp [Region.wanted, hgd]
  rw [if_pos hw]
  obtain ⟨g, c, w', hr, h1, h2, h3, h4⟩ := run_append1k w o.type base v xs y gx hown hc hlen hbase
  unfold Oper.wp execOp
  simp only [ho, resolve, invoke, builtin, Sem.run_bind, Sem.run_pure, Result.andThen_ok, List.map_toArray, List.map_cons, List.map_nil, hs, hx, hr]
  exact h g c w' h1 h2 h3 h4
end Go.Proofs.Ytkhjdijdcjgpfaa

namespace Go.Proofs.Ytkhjdijdcjgpfaa
open Go.RowKit

/-- what is asked of element number j -/
def connAt (n : Int) (xs : List Int) (j : Nat) : Prop := (1 ≤ xs.getD j 0 ∧ xs.getD j 0 ≤ n - 1) ∧ (0 < j → xs.getD (j - 1) 0 < xs.getD j 0) ∧ n - xs.getD j 0 ∉ xs
def connP (n : Int) (xs : List Int) : Prop := (n = 1 ∨ n = 3 ∨ n = 5 ∨ n = 7) ∧ (∀ j, j < xs.length → connAt n xs j) ∧ (xs.length : Int) = n / 2
noncomputable def connB (n : Int) (xs : List Int) : Bool := @decide (connP n xs) (Classical.propDecidable _)
theorem connB_true {n : Int} {xs : List Int} (h : connP n xs) : connB n xs = true := by unfold connB; simp [h]
theorem connB_false {n : Int} {xs : List Int} (h : ¬ connP n xs) : connB n xs = false := by unfold connB; simp [h]

theorem conn_no {n : Int} {xs : List Int} {k : Nat} (hk : k < xs.length) (h : ¬ connAt n xs k) : connB n xs = false := connB_false fun hp => h (hp.2.1 k hk)
theorem conn_no1 {n : Int} {xs : List Int} {k l : Nat} (hl : xs.length = l) (hk : k < l) (hW : inB (xs[k]?.getD 0) 1 (n - 1) = false) : connB n xs = false :=
  conn_no (k := k) (by omega) fun h => by
    have := inB_false.1 hW
    rw [← List.getD_eq_getElem?_getD] at this
    exact this h.1
theorem conn_no2 {n : Int} {xs : List Int} {k l : Nat} (hl : xs.length = l) (hk : k < l) (h0 : 0 < k) (h : xs[k]?.getD 0 ≤ xs[k - 1]?.getD 0) : connB n xs = false :=
  conn_no (k := k) (by omega) fun hh => by
    have := hh.2.1 h0
    rw [List.getD_eq_getElem?_getD, List.getD_eq_getElem?_getD] at this
    omega
theorem conn_no3 {n : Int} {xs : List Int} {k l : Nat} (hl : xs.length = l) (hk : k < l) (hC : containsI xs (n - xs[k]?.getD 0) = true) : connB n xs = false :=
  conn_no (k := k) (by omega) fun hh => by
    have := hh.2.2
    rw [List.getD_eq_getElem?_getD] at this
    simp [containsI] at hC
    exact this hC
theorem conn_yes {n : Int} {xs : List Int} {k : Nat} (hW : inB (xs[k]?.getD 0) 1 (n - 1) = true) (hC : containsI xs (n - xs[k]?.getD 0) = false) (h : 0 < k → xs[k - 1]?.getD 0 < xs[k]?.getD 0)
    (HP : ∀ j, j < k → connAt n xs j) : ∀ j, j < k + 1 → connAt n xs j := by
  intro j hj
  by_cases hjk : j < k
  · exact HP j hjk
  · obtain rfl : j = k := by omega
    refine ⟨?_, ?_, ?_⟩
    · rw [List.getD_eq_getElem?_getD]; exact inB_true.1 hW
    · rw [List.getD_eq_getElem?_getD, List.getD_eq_getElem?_getD]; exact h
    · rw [List.getD_eq_getElem?_getD]; simpa [containsI] using hC

end Go.Proofs.Ytkhjdijdcjgpfaa

namespace Go.Proofs.Ytkhjdijdcjgpfaa
open Go.RowKit

def specAt (n : Int) (xs : List Int) (j : Nat) : Prop := (1 ≤ xs.getD j 0 ∧ xs.getD j 0 ≤ n - 1) ∧ (0 < j → xs.getD (j - 1) 0 < xs.getD j 0) ∧ n - xs.getD j 0 ∉ xs.take j
theorem mem_take_getD {xs : List Int} {k : Nat} {x : Int} (hk : k ≤ xs.length) : x ∈ xs.take k ↔ ∃ j, j < k ∧ x = xs.getD j 0 := by
  rw [List.mem_iff_getElem?]
  constructor
  · rintro ⟨j, hj⟩
    rw [List.getElem?_take] at hj
    by_cases h : j < k
    · rw [if_pos h] at hj
      exact ⟨j, h, by rw [List.getD_eq_getElem?_getD, hj]; rfl⟩
    · rw [if_neg h] at hj; cases hj
  · rintro ⟨j, hj, rfl⟩
    refine ⟨j, ?_⟩
    rw [List.getElem?_take, if_pos hj, List.getD_eq_getElem?_getD, List.getElem?_eq_getElem (by omega)]
    rfl
theorem spec_mono {n : Int} {xs : List Int} {k : Nat} (h : ∀ j, j < k → specAt n xs j) : ∀ j i, i ≤ j → j < k → xs.getD i 0 ≤ xs.getD j 0 := by
  intro j
  induction j with
  | zero => intro i hi _; obtain rfl : i = 0 := by omega
            exact Int.le_refl _
  | succ j ih =>
    intro i hi hj
    by_cases e : i = j + 1
    · subst e; exact Int.le_refl _
    · have h1 := ih i (by omega) (by omega)
      have h2 := (h (j + 1) hj).2.1 (by omega)
      simp only [Nat.add_sub_cancel] at h2
      omega
theorem spec_all {n : Int} {xs : List Int} (hN : n = 1 ∨ n = 3 ∨ n = 5 ∨ n = 7) (hL : (xs.length : Int) = n / 2) (h : ∀ j, j < xs.length → specAt n xs j) : connP n xs := by
  refine ⟨hN, fun j hj => ⟨(h j hj).1, (h j hj).2.1, fun hm => ?_⟩, hL⟩
  have hm' : n - xs.getD j 0 ∈ xs.take xs.length := by rwa [List.take_length]
  obtain ⟨i, hi, e⟩ := (mem_take_getD (Nat.le_refl _)).1 hm'
  rcases Nat.lt_trichotomy i j with hij | hij | hij
  · exact (h j hj).2.2 ((mem_take_getD (by omega)).2 ⟨i, hij, e⟩)
  · subst hij; omega
  · exact (h i hi).2.2 ((mem_take_getD (by omega)).2 ⟨j, hij, by omega⟩)
theorem spec_set {n : Int} {xs : List Int} {k S l : Nat} (hl : xs.length = l) (hk : k < l) (hn7 : n ≤ 7) (hW : inB (xs[k]?.getD 0) 1 (n - 1) = true) (hlt : 0 < k → xs[k - 1]?.getD 0 < xs[k]?.getD 0)
    (hb : (bits BinOp.and IntKind.i64 ((S : Int) / 2 ^ (n - xs[k]?.getD 0).toNat) 1 == 1) = false)
    (HP : (∀ m : Nat, S.testBit m = decide ((m : Int) ∈ xs.take k)) ∧ ∀ j, j < k → specAt n xs j) (hS : S < 128) :
    ∃ S' : Nat, wrap64 ((S : Int) + wrap64 (2 ^ (xs[k]?.getD 0).toNat)) = S' ∧ S' < 128 ∧ (∀ m : Nat, S'.testBit m = decide ((m : Int) ∈ xs.take (k + 1))) ∧ ∀ j, j < k + 1 → specAt n xs j := by
  have hw := inB_true.1 hW
  obtain ⟨x, hx'⟩ : ∃ x : Nat, xs[k]?.getD 0 = x := ⟨(xs[k]?.getD 0).toNat, by omega⟩
  rw [hx'] at hw hb hlt ⊢
  have hx : xs.getD k 0 = x := by rw [List.getD_eq_getElem?_getD, hx']
  have hbit := hb
  rw [bit_test, HP.1] at hbit
  have hS2 : S < 2 ^ x := lt_of_testBit fun m hm => by
    rw [HP.1]
    simp only [decide_eq_false_iff_not]
    intro hmem
    obtain ⟨j, hj, e⟩ := (mem_take_getD (by omega)).1 hmem
    have h1 := spec_mono HP.2 (k - 1) j (by omega) (by omega)
    have h2 := hlt (by omega)
    rw [← List.getD_eq_getElem?_getD] at h2
    omega
  refine ⟨S + 2 ^ x, ?_, ?_, ?_, ?_⟩
  · exact add_shl S x (by omega) (by omega)
  · have : 2 ^ x ≤ 2 ^ 6 := Nat.pow_le_pow_right (by decide) (by omega)
    rw [show (2 : Nat) ^ 6 = 64 from rfl] at this
    omega
  · intro m
    rw [testBit_add_top S x m hS2, HP.1, List.take_succ_eq_append_getElem (by omega : k < xs.length)]
    have e : xs[k] = (x : Int) := by
      rw [← hx', List.getElem?_eq_getElem (by omega)]; rfl
    rw [e, Bool.eq_iff_iff]
    simp only [Bool.or_eq_true, decide_eq_true_eq, List.mem_append, List.mem_singleton]
    exact ⟨fun h => h.elim Or.inl (fun h => Or.inr (by omega)), fun h => h.elim Or.inl (fun h => Or.inr (by omega))⟩
  · intro j hj
    by_cases hjk : j < k
    · exact HP.2 j hjk
    · obtain rfl : j = k := by omega
      refine ⟨by rw [hx]; exact hw, fun h0 => ?_, ?_⟩
      · have := hlt h0
        rw [← List.getD_eq_getElem?_getD] at this
        rw [hx]; exact this
      · rw [hx]
        have e2 : (((n - x).toNat : Nat) : Int) = n - x := by omega
        rw [e2] at hbit
        simpa using hbit
theorem spec_no3 {n : Int} {xs : List Int} {k S l : Nat} (hl : xs.length = l) (hk : k < l) (hW : inB (xs[k]?.getD 0) 1 (n - 1) = true)
    (hb : (bits BinOp.and IntKind.i64 ((S : Int) / 2 ^ (n - xs[k]?.getD 0).toNat) 1 == 1) = true) (HP : ∀ m : Nat, S.testBit m = decide ((m : Int) ∈ xs.take k)) : connB n xs = false := by
  refine conn_no3 hl hk ?_
  have hw := inB_true.1 hW
  rw [bit_test, HP] at hb
  have e2 : (((n - xs[k]?.getD 0).toNat : Nat) : Int) = n - xs[k]?.getD 0 := by omega
  rw [e2] at hb
  simp only [decide_eq_true_eq] at hb
  simp only [containsI, decide_eq_true_eq]
  exact List.mem_of_mem_take hb

end Go.Proofs.Ytkhjdijdcjgpfaa

namespace Go.Proofs.Ytkhjdijdcjgpfaa
open Go.RowKit Go.Sort
set_option maxRecDepth 100000

def rotP (xs : List Int) (n a b : Nat) : Bool := containsI xs (((b : Int) - a + n) % n)
def rotT (xs : List Int) (n : Nat) : List Int := toL (rotP xs n) n
noncomputable def rtS (n : Int) (xs : List Int) : Int := if connB n xs = true then n else 0
noncomputable def rtL (n : Int) (xs : List Int) : List Int := if connB n xs = true then rotT xs n.toNat else []
theorem connB_iff {n : Int} {xs : List Int} : connB n xs = true ↔ connP n xs := by unfold connB; simp
theorem rtL_len (n : Int) (xs : List Int) : (rtL n xs).length ≤ 8 := by
  unfold rtL
  split
  · rename_i h
    have := (connB_iff.1 h).1
    rw [rotT, toL_len]; omega
  · simp
theorem rt_no {n : Int} {xs : List Int} (h : connB n xs = false) : rtS n xs = 0 ∧ rtL n xs = [] := by simp [rtS, rtL, h]
theorem rt_yes {n : Int} {xs : List Int} (h : connB n xs = true) : rtS n xs = n ∧ rtL n xs = rotT xs n.toNat := by simp [rtS, rtL, h]
end Go.Proofs.Ytkhjdijdcjgpfaa

namespace Go.Proofs.Ytkhjdijdcjgpfaa
open Go.RowKit Go.Sort
set_option maxRecDepth 100000
set_option maxHeartbeats 1000000 in
theorem pt1_any (n : Nat) (sl : Value) (xs : List Int) (hp : tourP n xs) (L : List Nat) (m : Nat) (hm : L.length = m) (lsl : Value) (a b gt gl : Nat) (W : World) (hr : Rd W sl xs) (ht : TBox W gt n sl) (hlb : W.cell? ⟨gl, 0, none⟩ = some lsl)
    (hl : Rd W lsl (nI L)) (hL : ∀ x ∈ L, x < n) (ha : a < m) (hb : b < m) :
    Calls Try.prog 134 #[.int .i64 a, .int .i64 b, .pointer (some ⟨gt, 0, none⟩), .pointer (some ⟨gl, 0, none⟩)] W fun e w' => e = .returned (.bool (bt xs (L.getD a 0) (L.getD b 0))) ∧ Below W.heap.size W w' := by
  have hA : L.getD a 0 < n := hL _ (by rw [getD_nat (by omega)]; exact List.getElem_mem _)
  have hB : L.getD b 0 < n := hL _ (by rw [getD_nat (by omega)]; exact List.getElem_mem _)
  have hA0 : (0 : Int) ≤ ((L.getD a 0 : Nat) : Int) := by omega
  have hB0 : (0 : Int) ≤ ((L.getD b 0 : Nat) : Int) := by omega
  have hA1 : ((L.getD a 0 : Nat) : Int) < xs.length := by rw [tour_len hp]; omega
  have hB1 : ((L.getD b 0 : Nat) : Int) ≤ 63 := by have := hp.1; omega
  have k1 := quiet_below (w := W) (fun W' hW => beats_any n sl xs (L.getD a 0 : Nat) (L.getD b 0 : Nat) W' (hr.below hW) hA0 hA1 hB0 hB1)
  clear hA0 hB0 hA1 hB1
  rw [Int.toNat_natCast, Int.toNat_natCast, bitI_bt (tour_wins hp (by rw [tour_len hp]; exact hA)).1] at k1
  obtain ⟨A, c, rfl, h1, h2, h3⟩ := hl
  rw [nI_len, hm] at hlb h1 h3
  obtain ⟨g, off, rfl, hg, hx⟩ := h3 (by omega)
  have za := hx a ha
  have zb := hx b hb
  rw [nI_getD (by omega)] at za zb
  generalize L.getD a 0 = x at *
  generalize L.getD b 0 = y at *
  have d1 := cell_regrown ht.1
  have d2 := cell_regrown ht.2
  have d3 := cell_regrown hlb
  have d4 := cell_regrown za
  have d5 := cell_regrown zb
  clear hr ht hp hx hL hlb za zb
  go_enter Try.func134, Try.ntmps134
  go_wp2_with fail
  refine wp_region_below (by kernel_rfl) (by kernel_rfl) ?_
  repeat (go_big_quiet_step (first | (with_reducible exact k1 _ _)))
  refine wpQuiet_nil ?_
  intro wq hbq0
  have HBQ := Lib.hid hbq0
  clear hbq0 d1 d2 d3 d4 d5 k1
  go_wp2
  go_ret
  exact ⟨rfl, HBQ.out⟩
theorem enters_pt1 : Enters 134 := fun _ _ => by kernel_rfl
/-- the tour of a set's players -/
def ptL (xs : List Int) (S : Nat) : List Int := toL (fun a b => bt xs ((memN S 8).getD a 0) ((memN S 8).getD b 0)) (memN S 8).length
theorem ptL_len (xs : List Int) (S : Nat) : (ptL xs S).length = (memN S 8).length := toL_len _ _
set_option maxHeartbeats 2000000 in
theorem cPart (n : Nat) (sl : Value) (xs : List Int) (S : Nat) (w : World) (h : Rd w sl xs) (hp : tourP n xs) (h1 : 1 ≤ S) (hS : S < 2 ^ n) :
    Calls Try.prog 118 #[.agg #[.int .i64 n, sl], .int .i64 S] w fun e w' => ∃ Y cy, e = .returned (.tuple #[.agg #[.int .i64 (memN S 8).length, .slice Y (memN S 8).length cy], .bool true]) ∧ Own w' w.heap.size (.slice Y (memN S 8).length cy) (ptL xs S) ∧ Below w.heap.size w w' := by
  have HR := Lib.hid h
  have HP := Lib.hid hp
  have q0 : tourB n xs = true := tourB_true.2 hp
  have hln := tour_len hp
  have hs := hp.1
  have h8 : n ≤ 8 := by omega
  have h256 : 2 ^ n ≤ 256 := Nat.pow_le_pow_right (n := 2) (j := 8) (by decide) h8
  have hS256 : S < 256 := by omega
  have hin : inB (S : Int) 1 ((2 ^ n - 1 : Nat) : Int) = true := inB_true.2 ⟨by omega, by omega⟩
  have hfull := full_nat n (by omega)
  have HM : Hid (∀ b ∈ memN S 8, b < n) := Lib.hid fun b hb => bit_lt hS (mem_memN.1 hb).2
  have hm8 := memN_len S 8
  have hm1 : 1 ≤ (memN S 8).length := by
    obtain ⟨c, hc⟩ := Nat.exists_testBit_of_ne_zero (show S ≠ 0 by omega)
    exact List.length_pos_of_mem (mem_memN.2 ⟨by have := bit_lt hS hc; omega, hc⟩)
  obtain ⟨A, c, rfl, -, hcm, -⟩ := h
  unfold maxLen at hcm
  rw [hln] at HR ⊢
  clear hp hln hS h256
  go_enter Try.func118, Try.ntmps118
  go_wp2_with fail
  have b0 := (below_alloc1 w (.cells #[.int .i64 n, .slice A n c] 25)).alloc (by simp) (.cells #[.int .i64 0, .slice none 0 0] 25)
  have x0 := (TBox.new w n (.slice A n c) 25).below (below_alloc1 _ (.cells #[.int .i64 0, .slice none 0 0] 25))
  have t0 := BoxF.new (w.alloc (.cells #[.int .i64 n, .slice A n c] 25)) 0 (.slice none 0 0) 25
  simp only [World.size_alloc] at t0
  generalize (w.alloc (.cells #[.int .i64 n, .slice A n c] 25)).alloc (.cells #[.int .i64 0, .slice none 0 0] 25) = w0 at *
  have HX0 := Lib.hid x0
  have HB0 := Lib.hid b0
  have HT0 := Lib.hid t0
  clear x0 b0 t0
  have y0_0 := HX0.out.1
  have y1_0 := HX0.out.2
  go_wp2_with fail
  refine (implTourOk n _ xs _ (HR.out.below HB0.out)).mono ?_
  rintro e w1 ⟨rfl, hb⟩
  have HX1 := Lib.hid (HX0.out.below hb)
  have HT1 := Lib.hid (HT0.out.below hb)
  have HB1 := Lib.hid (Below.then HB0.out hb)
  clear hb HX0 HT0 HB0 y0_0 y1_0
  have y0_1 := HX1.out.1
  have y1_1 := HX1.out.2
  rw [q0]
  go_wp2_with fail
  refine (within_any _ _ _ _).mono ?_
  rintro e w2 ⟨rfl, rfl⟩
  first | rw [hin] | skip
  clear hfull
  go_wp2_with fail
  refine (membersOf_any S 8 _ hS256 (by omega)).mono ?_
  rintro e w3 ⟨v, rfl, ho, hb3⟩
  clear y0_1 y1_1 hin
  obtain ⟨LA, lc, rfl, hlc1, hlc2, -⟩ := memL_cells ho
  have HL3 := Lib.hid (show Rd w3 (.slice LA (memN S 8).length lc) (nI (memN S 8)) from ho.rd)
  generalize hmm : (memN S 8).length = m at *
  have HMM := Lib.hid hmm
  clear hmm ho
  obtain ⟨gl, hgl⟩ : ∃ gl, gl = w3.heap.size := ⟨_, rfl⟩
  have hba := below_alloc1 w3 (.cells #[.slice LA m lc] 23)
  have B14 := Lib.hid (Below.then hb3 hba)
  have HX4 := Lib.hid (HX1.out.below B14.out)
  have HT4 := Lib.hid (HT1.out.below B14.out)
  have HB4 := Lib.hid (Below.then HB1.out B14.out)
  have HL4 := Lib.hid (HL3.out.below hba)
  have HC4 : Hid ((w3.alloc (.cells #[.slice LA m lc] 23)).cell? ⟨gl, 0, none⟩ = some (.slice LA m lc)) := Lib.hid (by simp [hgl])
  clear hba hb3 HX1 HT1 HB1 HL3 B14
  go_wp2_with fail
  rw [← hgl]
  generalize w3.alloc (.cells #[.slice LA m lc] 23) = w4 at *
  clear hgl
  have y2 := HC4.out
  go_wp2_with fail
  refine (tourOf_any m hm1 hm8 134 #[.pointer (some ⟨w.heap.size, 0, none⟩), .pointer (some ⟨gl, 0, none⟩)] enters_pt1 (fun a b => bt xs ((memN S 8).getD a 0) ((memN S 8).getD b 0)) w4 (fun a b ha hb W hW => pt1_any n (.slice A n c) xs HP.out (memN S 8) m HMM.out (.slice LA m lc) a b w.heap.size gl W (HR.out.below (Below.then HB4.out hW)) (HX4.out.below hW) ((hW.cell (World.block_lt_of_cell? _ _ HC4.out)).trans HC4.out) (HL4.out.below hW) HM.out ha hb)).mono ?_
  rintro e w5 ⟨sl', rfl, ho, hb5⟩
  obtain ⟨Y, cy, rfl, -, -, -⟩ := ho.form
  rw [toL_len] at *
  have HO5 := Lib.hid ho
  have hT5 := HT4.out.below hb5
  have hgt := HT4.out.gt
  have HB5 := Lib.hid (Below.then HB4.out hb5)
  have v0 := hT5.1.1
  have v1 := hT5.1.2
  have f0 := hT5.2 0
  have f1 := hT5.2 1
  have HOx := Lib.hid ((ho.kept (setCell_grown _ ⟨w.heap.size + 1, 0, none⟩ (.int .i64 m)) (own_ne (fun k hk => (ho.lt k hk).1) hgt)).kept (setCell_grown _ ⟨w.heap.size + 1, 1, none⟩ (.slice Y m cy)) (own_ne (fun k hk => (ho.lt k hk).1) hgt))
  have HBx := Lib.hid ((HB5.out.setCell (p := ⟨w.heap.size + 1, 0, none⟩) (show w.heap.size ≤ w.heap.size + 1 by omega) (.int .i64 m)).setCell (p := ⟨w.heap.size + 1, 1, none⟩) (show w.heap.size ≤ w.heap.size + 1 by omega) (.slice Y m cy))
  have R0 : Hid (((w5.setCell ⟨w.heap.size + 1, 0, none⟩ (.int .i64 m)).setCell ⟨w.heap.size + 1, 1, none⟩ (.slice Y m cy)).cell? ⟨w.heap.size + 1, 0, none⟩ = some (.int .i64 m)) := (World.cell?_setCell_other _ _ _ _ (by simp)).trans (World.cell?_setCell_same _ _ _ v0)
  have R1 : Hid (((w5.setCell ⟨w.heap.size + 1, 0, none⟩ (.int .i64 m)).setCell ⟨w.heap.size + 1, 1, none⟩ (.slice Y m cy)).cell? ⟨w.heap.size + 1, 1, none⟩ = some (.slice Y m cy)) := World.cell?_setCell_same _ _ _ ((World.cell?_setCell_other _ _ _ _ (by simp)).trans v1)
  have HSZ := HB4.out.size
  have HPT : Hid (ptL xs S = toL (fun a b => bt xs ((memN S 8).getD a 0) ((memN S 8).getD b 0)) m) := Lib.hid (by unfold ptL; rw [HMM.out])
  clear ho hb5 hT5 y2
  go_wp2
  have r0 := R0.out
  have r1 := R1.out
  refine bodyPost_ret (v := .tuple #[.agg #[.int .i64 m, .slice Y m cy], .bool true]) (by simp only [results, Try.results118]; simp [go_sem, r0, r1]) rfl ⟨Y, cy, by rw [HMM.out], by rw [HMM.out, HPT.out]; exact HOx.out.mono HSZ, HBx.out⟩
end Go.Proofs.Ytkhjdijdcjgpfaa

namespace Go.Proofs.Ytkhjdijdcjgpfaa
open Go.RowKit Go.Sort
set_option maxRecDepth 100000
def lvHit (xs : List Int) (n r : Nat) (f : Nat → Int) (a : Nat) : Bool := (memN (winsN xs a) n).any fun c => f c == (r : Int)
def lv (xs : List Int) (n b : Nat) : Nat → Nat → Int
  | 0, a => if a = b then 0 else -1
  | r + 1, a => if lv xs n b r a < 0 ∧ lvHit xs n r (lv xs n b r) a = true then (r : Int) + 1 else lv xs n b r a
theorem lv_succ (xs : List Int) (n b r a : Nat) : lv xs n b (r + 1) a = if lv xs n b r a < 0 ∧ lvHit xs n r (lv xs n b r) a = true then (r : Int) + 1 else lv xs n b r a := rfl
theorem lv_bd (xs : List Int) (n b : Nat) : ∀ r a, -1 ≤ lv xs n b r a ∧ lv xs n b r a ≤ r := by
  intro r
  induction r with
  | zero => intro a; simp only [lv]; split <;> omega
  | succ r ih => intro a; have := ih a; rw [lv_succ]; split <;> omega
theorem lv_keep {xs : List Int} {n b r a : Nat} (h : 0 ≤ lv xs n b r a) : ∀ d, lv xs n b (r + d) a = lv xs n b r a := by
  intro d
  induction d with
  | zero => rfl
  | succ d ih => rw [← Nat.add_assoc, lv_succ, if_neg (by rw [ih]; omega), ih]
theorem lv_keep' {xs : List Int} {n b r r' a : Nat} (h : 0 ≤ lv xs n b r a) (hr : r ≤ r') : lv xs n b r' a = lv xs n b r a := by
  obtain ⟨d, rfl⟩ := Nat.exists_eq_add_of_le hr
  exact lv_keep h d
theorem lv_at {xs : List Int} {n b : Nat} {d : Nat} : ∀ {r a : Nat}, lv xs n b r a = (d : Int) → d ≤ r ∧ lv xs n b d a = (d : Int) := by
  intro r
  induction r with
  | zero =>
    intro a h
    have := lv_bd xs n b 0 a
    have hd : d = 0 := by omega
    subst hd
    exact ⟨Nat.le_refl _, h⟩
  | succ r ih =>
    intro a h
    by_cases hc : lv xs n b r a < 0 ∧ lvHit xs n r (lv xs n b r) a = true
    · rw [lv_succ, if_pos hc] at h
      have hd : d = r + 1 := by omega
      subst hd
      exact ⟨Nat.le_refl _, by rw [lv_succ, if_pos hc]; omega⟩
    · rw [lv_succ, if_neg hc] at h
      have := ih h
      exact ⟨by omega, this.2⟩
theorem lv_zero {xs : List Int} {n b r a : Nat} (h : lv xs n b r a = 0) : a = b := by
  have := (lv_at (d := 0) h).2
  simp only [lv] at this
  split at this
  · assumption
  · omega
theorem lv_b (xs : List Int) (n b r : Nat) : lv xs n b r b = 0 := by
  have h0 : lv xs n b 0 b = 0 := by simp [lv]
  rw [lv_keep' (r := 0) (by rw [h0]; omega) (by omega), h0]
theorem lvHit_iff {xs : List Int} {n r : Nat} {f : Nat → Int} {a : Nat} : lvHit xs n r f a = true ↔ ∃ c, c ∈ memN (winsN xs a) n ∧ f c = (r : Int) := by
  unfold lvHit
  rw [List.any_eq_true]
  simp
theorem lv_pred {xs : List Int} {n b r a d : Nat} (h : lv xs n b r a = ((d + 1 : Nat) : Int)) : ∃ c, c ∈ memN (winsN xs a) n ∧ lv xs n b r c = (d : Int) := by
  obtain ⟨h1, h2⟩ := lv_at h
  rw [lv_succ] at h2
  by_cases hc : lv xs n b d a < 0 ∧ lvHit xs n d (lv xs n b d) a = true
  · obtain ⟨c, hm, hv⟩ := lvHit_iff.1 hc.2
    exact ⟨c, hm, by rw [lv_keep' (r := d) (by omega) (by omega)]; exact hv⟩
  · rw [if_neg hc] at h2
    have := (lv_bd xs n b d a).2
    omega
theorem lv_step {xs : List Int} {n b a c d : Nat} (hc : c ∈ memN (winsN xs a) n) (h : lv xs n b n c = (d : Int)) (hd : d < n) : 0 ≤ lv xs n b n a ∧ lv xs n b n a ≤ d + 1 := by
  have h2 := (lv_at h).2
  have h3 : 0 ≤ lv xs n b (d + 1) a ∧ lv xs n b (d + 1) a ≤ d + 1 := by
    have hb := lv_bd xs n b (d + 1) a
    refine ⟨?_, by omega⟩
    rw [lv_succ]
    by_cases hl : lv xs n b d a < 0
    · rw [if_pos ⟨hl, lvHit_iff.2 ⟨c, hc, h2⟩⟩]; omega
    · rw [if_neg (fun h => hl h.1)]; omega
  rw [lv_keep' (r := d + 1) h3.1 (by omega)]
  exact h3
theorem lv_chain {xs : List Int} {n b : Nat} : ∀ (d a : Nat), a < n → lv xs n b n a = (d : Int) → ∃ l : List Nat, l.length = d + 1 ∧ l.Nodup ∧ ∀ x ∈ l, x < n ∧ lv xs n b n x ≤ d := by
  intro d
  induction d with
  | zero => intro a ha h; exact ⟨[a], rfl, by simp, fun x hx => by simp at hx; subst hx; exact ⟨ha, by omega⟩⟩
  | succ d ih =>
    intro a ha h
    obtain ⟨c, hc, hv⟩ := lv_pred h
    obtain ⟨l, h1, h2, h3⟩ := ih c (mem_memN.1 hc).1 hv
    refine ⟨a :: l, by simp [h1], ?_, fun x hx => ?_⟩
    · rw [List.nodup_cons]
      exact ⟨fun hm => by have := (h3 a hm).2; omega, h2⟩
    · rw [List.mem_cons] at hx
      rcases hx with rfl | hx
      · exact ⟨ha, by omega⟩
      · have := h3 x hx; exact ⟨this.1, by omega⟩
theorem lv_top {xs : List Int} {n b a d : Nat} (ha : a < n) (h : lv xs n b n a = (d : Int)) : d < n := by
  obtain ⟨l, h1, h2, h3⟩ := lv_chain d a ha h
  have h4 := nodup_le n (nI l) (List.Pairwise.map _ (fun a b hab h => hab (by omega)) h2) (fun y hy => by
    unfold nI at hy
    rw [List.mem_map] at hy
    obtain ⟨x, hx, rfl⟩ := hy
    have := (h3 x hx).1
    omega)
  rw [nI_len] at h4
  omega
def nxt (xs : List Int) (n b : Nat) (m a : Nat) : Nat := ((memN (winsN xs a) n).find? fun c => lv xs n b n c == (m : Int)).getD 0
def gw (xs : List Int) (n b : Nat) : Nat → Nat → List Nat
  | 0, _ => []
  | m + 1, a => nxt xs n b m a :: gw xs n b m (nxt xs n b m a)
theorem gw_len (xs : List Int) (n b : Nat) : ∀ m a, (gw xs n b m a).length = m := by
  intro m
  induction m with
  | zero => intro a; rfl
  | succ m ih => intro a; simp [gw, ih]
def wB (b : Nat) (way : List Nat) : Bool := lastN way == b
theorem lastN_snoc (l : List Nat) (b : Nat) : lastN (l ++ [b]) = b := by simp [lastN]
theorem dfs_lv {xs : List Int} {n b : Nat} : ∀ m way L, m < n → way ≠ [] → dfs xs n (wB b) m way = some L → 0 ≤ lv xs n b n (lastN way) ∧ lv xs n b n (lastN way) ≤ m := by
  intro m
  induction m with
  | zero =>
    intro way L hm hw h
    rw [dfs] at h
    split at h
    · rename_i hq
      have : lastN way = b := by simpa [wB] using hq
      rw [this, lv_b]; omega
    · cases h
  | succ m ih =>
    intro way L hm hw h
    rw [dfs] at h
    obtain ⟨c, hc, hs⟩ := List.exists_of_findSome?_eq_some h
    have h2 := ih (way ++ [c]) L (by omega) (by simp) hs
    rw [lastN_snoc] at h2
    obtain ⟨e, he⟩ := Int.eq_ofNat_of_zero_le h2.1
    have h3 := lv_step ((List.mem_filter.1 hc).1) he (by omega)
    omega
theorem find_some {β : Type} {l : List Nat} {p : Nat → Bool} {F : Nat → Option β} {c : Nat} {y : β} (hf : l.find? p = some c) (h : ∀ x ∈ l, p x = false → F x = none) (hy : F c = some y) : l.findSome? F = some y := by
  induction l with
  | nil => cases hf
  | cons x l ih =>
    rcases q : p x with _ | _
    · rw [List.find?_cons, q] at hf
      rw [List.findSome?_cons, h x (by simp) q]
      exact ih hf (fun z hz => h z (by simp [hz]))
    · rw [List.find?_cons, q] at hf
      injection hf with hf
      subst hf
      rw [List.findSome?_cons, hy]
theorem nxt_find {xs : List Int} {n b m a : Nat} (h : lv xs n b n a = ((m + 1 : Nat) : Int)) : (memN (winsN xs a) n).find? (fun c => lv xs n b n c == (m : Int)) = some (nxt xs n b m a) ∧ nxt xs n b m a ∈ memN (winsN xs a) n ∧ lv xs n b n (nxt xs n b m a) = (m : Int) := by
  obtain ⟨c, hc, hv⟩ := lv_pred h
  rcases q : (memN (winsN xs a) n).find? (fun c => lv xs n b n c == (m : Int)) with _ | c0
  · rw [List.find?_eq_none] at q
    exact absurd (by simpa using hv) (q c hc)
  · have e : nxt xs n b m a = c0 := by unfold nxt; rw [q]; rfl
    have h1 := List.find?_some q
    have h2 := List.mem_of_find?_eq_some q
    rw [e]
    exact ⟨rfl, h2, by simpa using h1⟩
theorem dfs_gw {xs : List Int} {n b : Nat} : ∀ m way, m < n → way ≠ [] → lv xs n b n (lastN way) = (m : Int) → (∀ x ∈ way, (m : Int) ≤ lv xs n b n x) → dfs xs n (wB b) m way = some (way ++ gw xs n b m (lastN way)) := by
  intro m
  induction m with
  | zero =>
    intro way hm hw h ha
    have : lastN way = b := lv_zero h
    rw [dfs, if_pos (by simp [wB, this])]
    simp [gw]
  | succ m ih =>
    intro way hm hw h ha
    obtain ⟨hf, hmem, hv⟩ := nxt_find h
    have e : dfs xs n (wB b) (m + 1) way = (memN (winsN xs (lastN way)) n).findSome? fun c => if (!way.contains c) = true then dfs xs n (wB b) m (way ++ [c]) else none := by
      have : ∀ (l : List Nat) (p : Nat → Bool) (F : Nat → Option (List Nat)), (l.filter p).findSome? F = l.findSome? fun b => if p b = true then F b else none := by
        intro l p F
        induction l with
        | nil => rfl
        | cons x l ih =>
          rcases q : p x with _ | _
          · rw [List.filter_cons_of_neg (by simp [q]), ih, List.findSome?_cons]; simp [q]
          · rw [List.filter_cons_of_pos q, List.findSome?_cons, List.findSome?_cons, ih]; simp [q]
      exact this _ _ _
    rw [e]
    refine find_some hf (fun c hc hp => ?_) ?_
    · split
      · rcases q : dfs xs n (wB b) m (way ++ [c]) with _ | L
        · rfl
        · have h1 := dfs_lv m (way ++ [c]) L (by omega) (by simp) q
          rw [lastN_snoc] at h1
          obtain ⟨d, hd⟩ := Int.eq_ofNat_of_zero_le h1.1
          have h2 := lv_step hc hd (by omega)
          have : ¬ lv xs n b n c = (m : Int) := by simpa using hp
          omega
      · rfl
    · have hni : ¬ nxt xs n b m (lastN way) ∈ way := fun hm => by have := ha _ hm; omega
      rw [if_pos (by simpa using hni), ih (way ++ [nxt xs n b m (lastN way)]) (by omega) (by simp) (by rw [lastN_snoc]; exact hv) (fun x hx => by
        rw [List.mem_append, List.mem_singleton] at hx
        rcases hx with hx | rfl
        · have := ha x hx; omega
        · omega), lastN_snoc, gw, List.append_assoc]
      rfl
noncomputable def wbOk (s : Int) (xs : List Int) (a b : Int) : Bool := tourB s xs && inB a 0 (s - 1) && inB b 0 (s - 1)
noncomputable def wbO (s : Int) (xs : List Int) (a b : Int) : Option (List Nat) :=
  if wbOk s xs a b = true then (if lv xs xs.length b.toNat xs.length a.toNat < 0 then none else some (a.toNat :: gw xs xs.length b.toNat (lv xs xs.length b.toNat xs.length a.toNat).toNat a.toNat)) else none
noncomputable def wbL (s : Int) (xs : List Int) (a b : Int) : List Int := nI ((wbO s xs a b).getD [])
theorem wbO_no {s : Int} {xs : List Int} {a b : Int} (h : wbOk s xs a b = false) : wbO s xs a b = none := by simp [wbO, h]
theorem wbL_len (s : Int) (xs : List Int) (a b : Int) : (wbL s xs a b).length ≤ 16 := by
  unfold wbL
  rw [nI_len]
  unfold wbO
  split
  · rename_i h
    unfold wbOk at h
    rw [Bool.and_eq_true, Bool.and_eq_true] at h
    have hp := tourB_true.1 h.1.1
    have h2 := hp.1
    have h3 := hp.2.1
    split
    · simp
    · have := (lv_bd xs xs.length b.toNat xs.length a.toNat).2
      simp [gw_len]
      omega
  · simp
/-- the first length that leads there -/
theorem wb_hit {xs : List Int} {n a b k : Nat} {L : List Nat} (hk : k < n) (h0 : ∀ j, j < k → dfs xs n (wB b) j [a] = none) (h : dfs xs n (wB b) k [a] = some L) : lv xs n b n a = (k : Int) ∧ L = a :: gw xs n b k a := by
  have h1 := dfs_lv k [a] L hk (by simp) h
  have e : lastN [a] = a := rfl
  rw [e] at h1
  obtain ⟨d, hd⟩ := Int.eq_ofNat_of_zero_le h1.1
  have h2 := dfs_gw d [a] (by omega) (by simp) hd (fun x hx => by simp at hx; subst hx; omega)
  have hdk : d = k := by
    rcases Nat.lt_or_ge d k with h3 | h3
    · rw [h0 d h3] at h2; cases h2
    · omega
  subst hdk
  rw [h] at h2
  injection h2 with h2
  exact ⟨hd, h2⟩
theorem wb_miss {xs : List Int} {n a b : Nat} (ha : a < n) (h0 : ∀ j, j < n → dfs xs n (wB b) j [a] = none) : lv xs n b n a < 0 := by
  rcases Int.lt_or_le (lv xs n b n a) 0 with h | h
  · exact h
  · obtain ⟨d, hd⟩ := Int.eq_ofNat_of_zero_le h
    have h1 := lv_top ha hd
    have h2 := dfs_gw d [a] h1 (by simp) hd (fun x hx => by simp at hx; subst hx; omega)
    rw [h0 d h1] at h2
    cases h2
end Go.Proofs.Ytkhjdijdcjgpfaa

namespace Go.Proofs.Ytkhjdijdcjgpfaa
open Go.RowKit Go.Sort
set_option maxRecDepth 100000
def bsC (xs : List Int) (x y : Int) : Int := (scK xs y.toNat : Int) - scK xs x.toNat
def ordS (xs : List Int) : List Int := sortR (fun x y => decide (bsC xs x y < 0)) (idxL xs.length)
theorem ordS_len (xs : List Int) : (ordS xs).length = xs.length := by
  have := sortR_len (fun x y => decide (bsC xs x y < 0)) (idxL xs.length) (Nat.le_refl _)
  rw [List.take_length, idxL_len] at this
  exact this
theorem ins_mem (bef : Int → Int → Bool) (S : List Int) (x y : Int) (h : y = x ∨ y ∈ S) : y ∈ insR bef S x := by
  unfold insR
  rw [List.mem_append, List.mem_cons]
  rcases h with h | h
  · exact .inr (.inl h)
  · rw [← List.take_append_drop (posR bef x S S.length) S, List.mem_append] at h
    exact h.imp id .inr
theorem sort_mem (bef : Int → Int → Bool) (L : List Int) : ∀ i, i ≤ L.length → ∀ y, y ∈ L.take i → y ∈ sortR bef (L.take i) := by
  intro i
  induction i with
  | zero => intro _ y h; simp at h
  | succ i ih =>
    intro hi y h
    rw [sortR_succ bef L (by omega)]
    have e : L.take (i + 1) = L.take i ++ [L.getD i 0] := by
      rw [List.take_succ_eq_append_getElem (by omega), show L.getD i 0 = L[i] by simp [show i < L.length by omega]]
    rw [e, List.mem_append, List.mem_singleton] at h
    refine ins_mem _ _ _ _ ?_
    rcases h with h | h
    · exact .inr (ih (by omega) y h)
    · exact .inl h
theorem posR_after {bef : Int → Int → Bool} {x : Int} {S : List Int} : ∀ {k}, k ≤ S.length → ∀ j, posR bef x S k ≤ j → j < k → bef x (S.getD j 0) = true := by
  intro k
  induction k with
  | zero => intro _ j _ h; omega
  | succ k ih =>
    intro hk j hj hjk
    rcases q : bef x (S.getD k 0) with _ | _
    · rw [posR_stop q] at hj; omega
    · rw [posR_go q] at hj
      by_cases e : j = k
      · subst e; exact q
      · exact ih (by omega) j hj (by omega)
theorem posR_before {bef : Int → Int → Bool} {x : Int} {S : List Int} : ∀ {k}, k ≤ S.length → 0 < posR bef x S k → bef x (S.getD (posR bef x S k - 1) 0) = false := by
  intro k
  induction k with
  | zero => intro _ h; simp [posR] at h
  | succ k ih =>
    intro hk h
    rcases q : bef x (S.getD k 0) with _ | _
    · rw [posR_stop q, Nat.add_sub_cancel]; exact q
    · rw [posR_go q] at h ⊢; exact ih (by omega) h
/-- the greater keys stand first -/
theorem ins_sorted {key : Int → Int} {bef : Int → Int → Bool} (hb : ∀ x y, bef x y = decide (key y < key x)) {S : List Int} {x : Int} (hS : S.Pairwise fun a b => key b ≤ key a) : (insR bef S x).Pairwise fun a b => key b ≤ key a := by
  unfold insR
  have hle := posR_le bef x S S.length
  have hS2 := hS
  rw [← List.take_append_drop (posR bef x S S.length) S, List.pairwise_append] at hS2
  have h1 : ∀ y ∈ S.drop (posR bef x S S.length), key y ≤ key x := fun y hy => by
    obtain ⟨j, hj, rfl⟩ := List.getElem_of_mem hy
    rw [List.length_drop] at hj
    have := posR_after (bef := bef) (x := x) (Nat.le_refl S.length) (posR bef x S S.length + j) (by omega) (by omega)
    rw [hb] at this
    have h2 := of_decide_eq_true this
    rw [List.getElem_drop]
    rw [show S.getD (posR bef x S S.length + j) 0 = S[posR bef x S S.length + j] by simp [show posR bef x S S.length + j < S.length by omega]] at h2
    omega
  have h2 : ∀ y ∈ S.take (posR bef x S S.length), key x ≤ key y := fun y hy => by
    rcases Nat.eq_zero_or_pos (posR bef x S S.length) with h0 | h0
    · rw [h0] at hy; simp at hy
    · have hp := posR_before (Nat.le_refl S.length) h0
      rw [hb] at hp
      have h3 := of_decide_eq_false hp
      have hlt : posR bef x S S.length - 1 < S.length := by omega
      rw [show S.getD (posR bef x S S.length - 1) 0 = S[posR bef x S S.length - 1] by simp [hlt]] at h3
      obtain ⟨j, hj, rfl⟩ := List.getElem_of_mem hy
      rw [List.length_take] at hj
      rw [List.getElem_take]
      by_cases e : j = posR bef x S S.length - 1
      · have : S[j]'(by omega) = S[posR bef x S S.length - 1] := by simp [e]
        rw [this]; omega
      · have := List.pairwise_iff_getElem.1 hS j (posR bef x S S.length - 1) (by omega) hlt (by omega)
        omega
  rw [List.pairwise_append, List.pairwise_cons]
  exact ⟨hS2.1, ⟨h1, hS2.2.1⟩, fun a ha b hb => by
    rw [List.mem_cons] at hb
    rcases hb with rfl | hb
    · exact h2 a ha
    · exact hS2.2.2 a ha b hb⟩
theorem sort_sorted {key : Int → Int} {bef : Int → Int → Bool} (hb : ∀ x y, bef x y = decide (key y < key x)) (L : List Int) : ∀ i, i ≤ L.length → (sortR bef (L.take i)).Pairwise fun a b => key b ≤ key a := by
  intro i
  induction i with
  | zero => intro _; simp [sortR]
  | succ i ih => intro hi; rw [sortR_succ bef L (by omega)]; exact ins_sorted hb (ih (by omega))
theorem ordS_facts (xs : List Int) : (∀ i, i < xs.length → ∃ a : Nat, a < xs.length ∧ (ordS xs).getD i 0 = a) ∧ (∀ a, a < xs.length → ∃ i, i < xs.length ∧ (ordS xs).getD i 0 = (a : Int)) ∧
    (∀ i j a b : Nat, i < j → j < xs.length → (ordS xs).getD i 0 = (a : Int) → (ordS xs).getD j 0 = (b : Int) → scK xs b ≤ scK xs a) := by
  have hl := ordS_len xs
  have hm : ∀ y, y ∈ idxL xs.length → y ∈ ordS xs := fun y hy => by
    have := sort_mem (fun x y => decide (bsC xs x y < 0)) (idxL xs.length) (idxL xs.length).length (Nat.le_refl _) y (by rwa [List.take_length])
    rwa [List.take_length] at this
  have hs : (ordS xs).Pairwise fun a b => (scK xs b.toNat : Int) ≤ scK xs a.toNat := by
    have := sort_sorted (key := fun a => (scK xs a.toNat : Int)) (bef := fun x y => decide (bsC xs x y < 0)) (fun x y => by rw [decide_eq_decide]; unfold bsC; omega) (idxL xs.length) (idxL xs.length).length (Nat.le_refl _)
    rwa [List.take_length] at this
  refine ⟨fun i hi => ?_, fun a ha => ?_, fun i j a b hij hj hia hjb => ?_⟩
  · have h1 : (ordS xs).getD i 0 ∈ ordS xs := getD_memI (by omega)
    have h2 : (ordS xs).getD i 0 ∈ idxL xs.length := mem_sortR (i := (idxL xs.length).length) (Nat.le_refl _) (by rw [List.take_length]; exact h1)
    exact idxL_mem h2
  · have h1 := hm (a : Int) (by unfold idxL; rw [List.mem_map]; exact ⟨a, List.mem_range.2 ha, rfl⟩)
    obtain ⟨i, hi, he⟩ := List.getElem_of_mem h1
    exact ⟨i, by omega, by simp [hi, he]⟩
  · have := List.pairwise_iff_getElem.1 hs i j (by omega) (by omega) hij
    rw [show (ordS xs)[i] = (a : Int) by rw [← hia]; simp [show i < (ordS xs).length by omega], show (ordS xs)[j] = (b : Int) by rw [← hjb]; simp [show j < (ordS xs).length by omega], Int.toNat_natCast, Int.toNat_natCast] at this
    omega
theorem scK_le (xs : List Int) (a : Nat) (h : winsN xs a < 256) : scK xs a ≤ 8 := by unfold scK; rw [pop_mem h]; exact memN_len _ _
set_option maxHeartbeats 1000000 in
theorem bs1_any (n : Nat) (sl : Value) (xs : List Int) (hp : tourP n xs) (a b gt : Nat) (W : World) (hr : Rd W sl xs) (ht : TBox W gt n sl) (ha : a < xs.length) (hb : b < xs.length) :
    Calls Try.prog 136 #[.int .i64 a, .int .i64 b, .pointer (some ⟨gt, 0, none⟩)] W fun e w' => e = .returned (.int .i64 (bsC xs a b)) ∧ Below W.heap.size W w' := by
  have k1 := quiet_below (w := W) (fun W' hW => score_any n sl xs b W' (hr.below hW) hp hb)
  have k2 := quiet_below (w := W) (fun W' hW => score_any n sl xs a W' (hr.below hW) hp ha)
  have h1 := scK_le xs a (tour_wins hp ha).2.2
  have h2 := scK_le xs b (tour_wins hp hb).2.2
  have hF : Hid (bsC xs a b = (scK xs b : Int) - scK xs a) := by unfold Hid bsC; rw [Int.toNat_natCast, Int.toNat_natCast]
  unfold scK at h1 h2 hF
  rw [hF.out]
  generalize popN 8 (winsN xs a) = sa at *
  generalize popN 8 (winsN xs b) = sb at *
  have hw : IntKind.i64.wrap ((sb : Int) - sa) = (sb : Int) - sa := by rw [IntKind.wrap_i64]; omega
  have d1 := cell_regrown ht.1
  have d2 := cell_regrown ht.2
  clear hr ht hp
  go_enter Try.func136, Try.ntmps136
  go_wp2_with fail
  refine wp_region_below (by kernel_rfl) (by kernel_rfl) ?_
  repeat (go_big_quiet_step (first | (with_reducible exact k1 _ _) | (with_reducible exact k2 _ _)))
  refine wpQuiet_nil ?_
  intro wq hbq0
  have HBQ := Lib.hid hbq0
  clear hbq0 d1 d2 k1 k2
  go_wp2
  go_ret
  exact ⟨ret_int (by first | rfl | exact hw | simp [hw]), HBQ.out⟩
set_option maxHeartbeats 2000000 in
theorem byScore_any (n : Nat) (sl : Value) (xs : List Int) (hp : tourP n xs) (w : World) (h : Rd w sl xs) :
    Calls Try.prog 124 #[.agg #[.int .i64 n, sl]] w fun e w' => ∃ v', e = .returned v' ∧ Own w' w.heap.size v' (ordS xs) ∧ Below w.heap.size w w' := by
  have hs := hp.1
  have hsl := hp.2.1
  have HR := Lib.hid h
  have HP := Lib.hid hp
  have hn : xs.length = n := by omega
  have HN := Lib.hid hn
  have hF : Hid (ordS xs = sortR (fun x y => decide (bsC xs x y < 0)) (idxL n)) := by unfold Hid ordS; rw [hn]
  have hE : Enters 136 := fun args W => by kernel_rfl
  clear h hp hn
  go_enter Try.func124, Try.ntmps124
  go_wp2_with fail
  have b0 := below_alloc1 w (.cells #[.int .i64 n, sl] 25)
  have x0 := TBox.new w n (sl) 25
  generalize w.alloc (.cells #[.int .i64 n, sl] 25) = w0 at *
  have HX0 := Lib.hid x0
  have HB0 := Lib.hid b0
  clear x0 b0
  have y0_0 := HX0.out.1
  have y1_0 := HX0.out.2
  go_wp2_with fail
  refine (indices_any n (by omega) w0 (by omega)).mono ?_
  rintro e w4 ⟨rfl, ho4, hb4⟩
  have HO4 := Lib.hid ho4
  have HB4 := Lib.hid hb4
  clear ho4 hb4
  go_wp2_with fail
  refine (sortStable_any 136 #[.pointer (some ⟨w.heap.size, 0, none⟩)] hE (bsC xs) (idxL n) n w0.heap.size w0.heap.size n w4 (idxL_len n) (by omega) (by omega) (Nat.le_refl _) (by omega) HB4.out.size HO4.out (fun x hx y hy W hW => by
    obtain ⟨a, ha, rfl⟩ := idxL_mem hx
    obtain ⟨b, hb, rfl⟩ := idxL_mem hy
    have hWW : Below w0.heap.size w0 W := HB4.out.trans hW
    exact bs1_any n sl xs HP.out a b w.heap.size W (HR.out.below (Below.then HB0.out hWW)) (HX0.out.below hWW) (by rw [HN.out]; exact ha) (by rw [HN.out]; exact hb))).mono ?_
  rintro e w5 ⟨rfl, ho5, hb5⟩
  have HO5 := Lib.hid ho5
  have HB5 := Lib.hid (HB4.out.trans hb5)
  clear ho5 hb5
  go_wp2
  go_ret
  exact ⟨_, rfl, by rw [hF.out]; exact HO5.out.mono HB0.out.size, Below.then HB0.out HB5.out⟩
end Go.Proofs.Ytkhjdijdcjgpfaa

namespace Go.Proofs.Ytkhjdijdcjgpfaa
open Go.RowKit Go.Sort
set_option maxRecDepth 100000
def revM (L : List Int) (n i : Nat) : List Int := (List.range n).map fun k => if k < i ∨ n - i ≤ k then L.getD (n - 1 - k) 0 else L.getD k 0
theorem revM_len (L : List Int) (n i : Nat) : (revM L n i).length = n := by simp [revM]
theorem revM_at {L : List Int} {n i k : Nat} (h : k < n) : (revM L n i).getD k 0 = if k < i ∨ n - i ≤ k then L.getD (n - 1 - k) 0 else L.getD k 0 := by simp [revM, h]
theorem revM_zero {L : List Int} {n : Nat} (h : L.length = n) : revM L n 0 = L := list_ext0 (revM_len _ _ _) h fun k hk => by rw [revM_at hk, if_neg (by omega)]
theorem revM_end {L : List Int} {n i : Nat} (h : L.length = n) (hi : n ≤ i + i + 1) (hi2 : i + i ≤ n) : revM L n i = L.reverse := list_ext0 (n := n) (revM_len _ _ _) (by rw [List.length_reverse]; exact h) fun k hk => by
  have e : L.reverse.getD k 0 = L.getD (n - 1 - k) 0 := by
    rw [List.getD_eq_getElem?_getD, List.getElem?_reverse (by omega), List.getD_eq_getElem?_getD, h]
  rw [revM_at hk, e]
  split
  · rfl
  · rw [show n - 1 - k = k by omega]
theorem revM_step {L : List Int} {n i j : Nat} (hj : j + i + 1 = n) (hij : i < j) : ((revM L n i).set i (L.getD j 0)).set j (L.getD i 0) = revM L n (i + 1) := list_ext0 (n := n) (by rw [List.length_set, List.length_set, revM_len]) (revM_len _ _ _) fun k hk => by
  by_cases e1 : k = j
  · subst e1
    rw [getD_set_same _ (by rw [List.length_set, revM_len]; exact hk), revM_at hk, if_pos (by omega), show n - 1 - k = i by omega]
  · rw [getD_set_other _ (Ne.symm e1)]
    by_cases e2 : k = i
    · subst e2
      rw [getD_set_same _ (by rw [revM_len]; exact hk), revM_at hk, if_pos (by omega), show n - 1 - k = j by omega]
    · rw [getD_set_other _ (Ne.symm e2), revM_at hk, revM_at hk]
      by_cases h : k < i ∨ n - i ≤ k
      · rw [if_pos h, if_pos (by omega)]
      · rw [if_neg h, if_neg (by omega)]
set_option maxHeartbeats 2000000 in
theorem reverse_any (L : List Int) (n base g c : Nat) (w : World) (hl : L.length = n) (h1 : 1 ≤ n) (hn : n ≤ 1000) (hbase : base ≤ w.heap.size) (hc : c ≤ maxLen) (hnc : n ≤ c) (h : Own w base (.slice (some ⟨g, 0, none⟩) n c) L) :
    Calls Try.prog 125 #[.slice (some ⟨g, 0, none⟩) n c] w fun e w' => e = .returned (.tuple #[]) ∧ Own w' base (.slice (some ⟨g, 0, none⟩) n c) L.reverse ∧ Below base w w' := by
  have HO := Lib.hid h
  have HL := Lib.hid hl
  have hg := (h.lt g rfl).1
  unfold maxLen at hc
  clear h hl
  go_enter Try.func125, Try.ntmps125
  go_wp2
  go_loopw [2, 3] (fun i j wr => ∃ a : Nat, a + a ≤ n + 1 ∧ a ≤ n ∧ i = .int .i64 a ∧ j = .int .i64 ((n : Int) - 1 - a) ∧ Hid (a + a ≤ n) ∧ Hid (Own wr base (.slice (some ⟨g, 0, none⟩) n c) (revM L n a)) ∧ Hid (Below base w wr)) (fun i _ _ => n - (intOf i).toNat)
  case atStart => exact ⟨0, by omega, by omega, rfl, by first | rfl | (congr 1; omega) | simp, by unfold Hid; omega, by rw [revM_zero HL.out]; exact HO.out, Below.refl _ _⟩
  case round =>
    obtain ⟨wo, rfl⟩ : ∃ x, x = wr := ⟨_, rfl⟩
    obtain ⟨a, ha1, ha, rfl, rfl, HAA, HOo, HBo⟩ := hrel
    by_cases hlt : (a : Int) < (n : Int) - 1 - a
    · obtain ⟨j, hj⟩ : ∃ j, j + a + 1 = n := ⟨n - 1 - a, by omega⟩
      have hjv : (n : Int) - 1 - a = j := by omega
      rw [hjv] at hlt
      rw [hjv]
      have haj : a < j := by omega
      have hl2 := revM_len L n a
      have hat := HOo.out.at1 hl2 (by omega)
      have z0 := hat.1 a (by omega)
      have z1 := hat.1 j (by omega)
      rw [revM_at (by omega), if_neg (by omega)] at z0 z1
      have f0 := hat.2 a
      have f1 := hat.2 j
      have HST := Lib.hid (revM_step (L := L) hj haj)
      have O3 := (HOo.out.set_ hl2 a (L.getD j 0)).1
      have O4 := (O3.set_ (by rw [List.length_set]; exact hl2) j (L.getD a 0)).1
      rw [HST.out] at O4
      have HO4 := Lib.hid O4
      have HB4 := Lib.hid ((HBo.out.setCell (p := ⟨g, a, none⟩) hg (.int .i64 (L.getD j 0))).setCell (p := ⟨g, j, none⟩) hg (.int .i64 (L.getD a 0)))
      clear O3 O4 hat hl2
      generalize L.getD a 0 = x at *
      generalize L.getD j 0 = y at *
      go_wp2_with fail
      have q1 : IntKind.i64.wrap ((j : Nat) : Int) = (j : Int) := by rw [IntKind.wrap_i64]; omega
      have q2 : IntKind.i64.wrap ((a : Nat) : Int) = (a : Int) := by rw [IntKind.wrap_i64]; omega
      have q3 : a < n := by omega
      have q4 : j < n := by omega
      have q5 : (a : Int) < n := by omega
      have q6 : (j : Int) < n := by omega
      have q7 : (0 : Int) ≤ a := by omega
      have q8 : (0 : Int) ≤ j := by omega
      have q9 : a ≠ j := by omega
      go_region_law (fail)
      all_goals
        clear z0 z1 f0 f1 q1 q2 q3 q4 q5 q6 q7 q8
        have HO5 : Hid (Own ((wo.setCell ⟨g, a, none⟩ (.int .i64 y)).setCell ⟨g, j, none⟩ (.int .i64 x)).drew base (.slice (some ⟨g, 0, none⟩) n c) (revM L n (a + 1))) := HO4.out
        have HB5 : Hid (Below base w ((wo.setCell ⟨g, a, none⟩ (.int .i64 y)).setCell ⟨g, j, none⟩ (.int .i64 x)).drew) := ⟨HB4.out.os, HB4.out.tape, HB4.out.output, HB4.out.size, HB4.out.block⟩
        clear HO4 HB4
        generalize ((wo.setCell ⟨g, a, none⟩ (.int .i64 y)).setCell ⟨g, j, none⟩ (.int .i64 x)).drew = w9 at HO5 HB5 ⊢
        go_wp2
        go_roundw
        case rel => exact ⟨a + 1, by omega, by omega, by go_num, by rw [show (n : Int) - 1 - ((a + 1 : Nat) : Int) = (j : Int) - 1 by omega], by unfold Hid; omega, HO5.out, HB5.out⟩
        case measure => simp [intOf]; omega
    · have HE : Hid (revM L n a = L.reverse) := revM_end HL.out (by omega) HAA.out
      go_wp2
      go_end0
      exact ⟨rfl, by rw [← HE.out]; exact HOo.out, HBo.out⟩
end Go.Proofs.Ytkhjdijdcjgpfaa

