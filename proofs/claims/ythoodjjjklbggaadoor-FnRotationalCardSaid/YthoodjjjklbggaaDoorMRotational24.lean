/- Texts put together: EvenOn, SafeP, KerP, KerM, KerW, EvenE, SfI, SfQ, SfS. -/
import Derived.Test.YthoodjjjklbggaaDoorMRotational23
import Derived.Test.YthoodjjjklbggaaDoorMRotational01
import Derived.Test.YthoodjjjklbggaaDoorMRotational04
import Derived.Deep.RegionHeld3
import Derived.Deep.DeepCutAuto
import Derived.Test.YthoodjjjklbggaaDoorMRotational12
import Derived.Test.YthoodjjjklbggaaDoorMRotational11
import Derived.Test.YthoodjjjklbggaaDoorMRotational03
namespace Go.Proofs.YthoodjjjklbggaaDoor
open Go.RowKit Go.Sort
set_option maxRecDepth 100000
/-- the weight of the k-th of a list -/
def evS (xs : List Int) (l : List Nat) (k : Nat) : Int := (if k % 2 = 1 then -1 else 1) * pfF (sg xs) l.length (l.eraseIdx k)
def evK (xs : List Int) (l : List Nat) (n : Nat) : Nat → List Int
  | 0 => List.replicate n 0
  | k + 1 => (evK xs l n k).set (l.getD k 0) (evS xs l k)
theorem evK_len (xs : List Int) (l : List Nat) (n k : Nat) : (evK xs l n k).length = n := by
  induction k with
  | zero => simp [evK]
  | succ k ih => simp [evK, ih]
theorem evS_bd {n : Nat} {xs : List Int} (hp : tourP n xs) {l : List Nat} (hl : l.length % 2 = 1) (h7 : l.length ≤ 7) (hnd : l.Nodup) (hm : ∀ x ∈ l, x < n) {k : Nat} (hk : k < l.length) :
    evS xs l k % 2 = 1 ∧ -15 ≤ evS xs l k ∧ evS xs l k ≤ 15 ∧ -15 ≤ pfF (sg xs) l.length (l.eraseIdx k) ∧ pfF (sg xs) l.length (l.eraseIdx k) ≤ 15 := by
  have hsub : (l.eraseIdx k).Sublist l := List.eraseIdx_sublist _ _
  have hlen : (l.eraseIdx k).length = l.length - 1 := List.length_eraseIdx_of_lt hk
  have h := pfF_facts (sg_sk hp) l.length (l.eraseIdx k) (by omega) (by omega) (hsub.nodup hnd) (fun x hx => hm x (hsub.subset hx))
  rw [hlen] at h
  have hb : pfBd (l.length - 1) ≤ 15 := by
    have : l.length = 1 ∨ l.length = 3 ∨ l.length = 5 ∨ l.length = 7 := by omega
    rcases this with h | h | h | h <;> rw [h] <;> decide
  unfold evS
  split <;> omega
theorem evK_bd {n : Nat} {xs : List Int} (hp : tourP n xs) {l : List Nat} (hl : l.length % 2 = 1) (h7 : l.length ≤ 7) (hnd : l.Nodup) (hm : ∀ x ∈ l, x < n) : ∀ k, k ≤ l.length → ∀ j, -15 ≤ (evK xs l n k).getD j 0 ∧ (evK xs l n k).getD j 0 ≤ 15 := by
  intro k
  induction k with
  | zero =>
    intro _ j
    have : (evK xs l n 0).getD j 0 = 0 := by
      unfold evK
      by_cases h : j < n <;> simp [h]
    rw [this]; omega
  | succ k ih =>
    intro hk j
    obtain ⟨-, h1, h2, -, -⟩ := evS_bd hp hl h7 hnd hm (k := k) (by omega)
    have h3 := ih (by omega) j
    simp only [evK]
    rw [List.getD_eq_getElem?_getD, List.getElem?_set]
    split
    · split
      · simp; omega
      · simp
    · rw [← List.getD_eq_getElem?_getD]; exact h3
theorem evK_out {xs : List Int} {l : List Nat} {n j : Nat} (hj : j ∉ l) : ∀ k, k ≤ l.length → (evK xs l n k).getD j 0 = 0 := by
  intro k
  induction k with
  | zero =>
    intro _
    unfold evK
    by_cases h : j < n <;> simp [h]
  | succ k ih =>
    intro hk
    have hne : l.getD k 0 ≠ j := fun e => hj (by
      rw [← e, getD_nat (by omega)]; exact List.getElem_mem _)
    simp only [evK]
    rw [List.getD_eq_getElem?_getD, List.getElem?_set_ne hne, ← List.getD_eq_getElem?_getD]
    exact ih (by omega)
def evV (xs : List Int) (l : List Nat) (n : Nat) : List Int := if (evK xs l n l.length).getD (l.getD 0 0) 0 < 0 then (evK xs l n l.length).map fun x => -x else evK xs l n l.length
theorem evV_len (xs : List Int) (l : List Nat) (n : Nat) : (evV xs l n).length = n := by
  unfold evV
  split
  · rw [List.length_map, evK_len]
  · exact evK_len _ _ _ _
theorem neg_getD (L : List Int) (j : Nat) : (L.map fun x => -x).getD j 0 = -(L.getD j 0) := by
  by_cases h : j < L.length <;> simp [h]
theorem evV_bd {n : Nat} {xs : List Int} {l : List Nat} (h : ∀ j, -15 ≤ (evK xs l n l.length).getD j 0 ∧ (evK xs l n l.length).getD j 0 ≤ 15) (j : Nat) : -15 ≤ (evV xs l n).getD j 0 ∧ (evV xs l n).getD j 0 ≤ 15 := by
  have := h j
  unfold evV
  split
  · rw [neg_getD]; omega
  · exact this
theorem evV_out {xs : List Int} {l : List Nat} {n j : Nat} (hj : j ∉ l) : (evV xs l n).getD j 0 = 0 := by
  have := evK_out (xs := xs) (n := n) hj l.length (Nat.le_refl _)
  unfold evV
  split
  · rw [neg_getD, this]; rfl
  · exact this
/-- all weights of the list are greater than 0 -/
def evG (xs : List Int) (l : List Nat) (n : Nat) : Bool := l.all fun a => decide (0 < (evV xs l n).getD a 0)
set_option maxHeartbeats 4000000 in
theorem evenOn_any (n : Nat) (sl : Value) (xs : List Int) (hp : tourP n xs) (l : List Nat) (v : Value) (w : World) (h7 : l.length ≤ 7) (h1 : 1 ≤ l.length) (hnd : l.Nodup) (hm : ∀ x ∈ l, x < n) (h : Rd w sl xs) (hv : Rd w v (nI l)) (hev : l.length % 2 = 1) :
    Calls Tryd.prog 28 #[.agg #[.int .i64 n, sl], v] w fun e w' => ∃ v', e = .returned v' ∧ (evG xs l n = true → Own w' w.heap.size v' (lowL (evV xs l n)) ∧ v' ≠ .slice none 0 0) ∧ (evG xs l n = false → v' = .slice none 0 0) ∧ Below w.heap.size w w' := by
  have HP := Lib.hid hp
  have hs := hp.1
  have hln := tour_len hp
  have HR := Lib.hid h
  obtain ⟨A, c, rfl, -, hcm, -⟩ := h
  unfold maxLen at hcm
  rw [hln] at HR ⊢
  have HLN := Lib.hid hln
  have HSB := Lib.hid (fun k hk => evS_bd (k := k) hp hev h7 hnd hm hk)
  have HKB := Lib.hid (evK_bd hp hev h7 hnd hm)
  have HND := Lib.hid hnd
  have HM := Lib.hid hm
  have HV := Lib.hid hv
  obtain ⟨B, d, rfl, hd1, hd2, hx⟩ := hv
  unfold maxLen at hd2
  rw [nI_len] at hd1 hx HV ⊢
  obtain ⟨g, off, rfl, hg, hc⟩ := hx (by omega)
  have HC := Lib.hid hc
  obtain ⟨m, hmm⟩ : ∃ m, m = l.length := ⟨_, rfl⟩
  have HML := Lib.hid hmm
  rw [← hmm] at hd1 hev h7 h1 HSB HC HV ⊢
  have HKB : Hid (∀ k, k ≤ m → ∀ j, -15 ≤ (evK xs l n k).getD j 0 ∧ (evK xs l n k).getD j 0 ≤ 15) := Lib.hid fun k hk => HKB.out k (by omega)
  clear hp hln hnd hm hx hc hmm
  obtain ⟨i0, hi, hz0, hz1, hz2⟩ := info_parts i64_info
  have er : Int.tmod (m : Int) 2 = 1 := by rw [Int.tmod_eq_emod_of_nonneg (by omega)]; omega
  have er2 : (m : Int) % 2 = 1 := by omega
  go_enter Tryd.func28, Tryd.ntmps28
  have b0 := below_alloc1 w (.cells #[.int .i64 n, .slice A n c] 25)
  have x0 := TBox.new w n (.slice A n c) 25
  have HB0 := Lib.hid b0
  have HX0 := Lib.hid x0
  clear b0 x0
  go_wp2_with (at_make; refine wpList_make_full _ rfl _ _ 23 rfl (w.alloc (.cells #[.int .i64 n, .slice A n c] 25)).heap.size 3 i0 (.int .i64 0) 1 Tryd.underlying23 hi hz0 hz1 _ _ _ _ n rfl rfl rfl rfl (by rw [hz2]; omega) (by unfold maxLen; omega) (Nat.le_refl _) ?_; intro w1 hown hg1; have hb1 : Below (w.alloc (.cells #[.int .i64 n, .slice A n c] 25)).heap.size (w.alloc (.cells #[.int .i64 n, .slice A n c] 25)) w1 := (Below.refl _ _).grown hg1 (Nat.le_refl _) (by simp); have HX1 := Lib.hid (HX0.out.below hb1); have HB1 := Lib.hid (Below.then HB0.out hb1); have HOWN := Lib.hid hown; clear hown hg1 hb1)
  have hsz : Hid (w.heap.size ≤ w.heap.size + 1) := Nat.le_succ _
  simp only [World.size_alloc] at HOWN
  obtain ⟨gl, hgl⟩ : ∃ gl, gl = w.heap.size + 1 := ⟨_, rfl⟩
  rw [← hgl] at HOWN ⊢
  have HGL := Lib.hid hgl
  clear hgl
  have HOW : Hid (Own w1 w.heap.size (.slice (some ⟨gl, 0, none⟩) n n) (evK xs l n 0)) := Lib.hid (by
    have ho := HOWN.out
    rw [ints_made'] at ho
    have : Own w1 gl (.slice (some ⟨gl, 0, none⟩) n n) (List.replicate n 0) := by unfold Own; rw [List.length_replicate]; exact ho
    exact this.mono (by have := HGL.out; omega))
  clear HOWN
  have hn1 : 0 < n := by omega
  go_loopw [20] (fun t20 wr => ∃ (k : Nat), k ≤ m ∧ t20 = .int .i64 k ∧ Hid (Own wr w.heap.size (.slice (some ⟨gl, 0, none⟩) n n) (evK xs l n k)) ∧ Hid (TBox wr w.heap.size n (.slice A n c)) ∧ Hid (Below w.heap.size w wr)) (fun t20 _ => m - (intOf t20).toNat)
  case atStart => exact ⟨0, by omega, rfl, HOW, HX1, HB1⟩
  case round =>
    obtain ⟨wo, rfl⟩ : ∃ x, x = wr := ⟨_, rfl⟩
    obtain ⟨k, hk, rfl, HO, HX, HB⟩ := hrel
    clear HOW HX1 HB1
    by_cases hlt : k < m
    · as_aux_lemma =>
      have hkl : k < l.length := by rw [← HML.out]; exact hlt
      have hzk : w.cell? ⟨g, off + k, none⟩ = some (.int .i64 (l.getD k 0 : Nat)) := by
        have := HC.out k hlt
        rw [nI_getD hkl] at this
        exact this
      have zk := (HB.out.cell (p := ⟨g, off + k, none⟩) hg).trans hzk
      have hbn : l.getD k 0 < n := HM.out _ (by rw [getD_nat hkl]; exact List.getElem_mem hkl)
      have HKS : Hid (evK xs l n (k + 1) = (evK xs l n k).set (l.getD k 0) (evS xs l k)) := Lib.hid rfl
      have HES : Hid (evS xs l k = (if k % 2 = 1 then -1 else 1) * pfF (sg xs) m (l.eraseIdx k)) := Lib.hid (by rw [HML.out]; rfl)
      obtain ⟨-, -, -, p1, p2⟩ := HSB.out k hlt
      have y0 := HX.out.1
      have y1 := HX.out.2
      have hsub : (l.eraseIdx k).Sublist l := List.eraseIdx_sublist _ _
      have hel : (l.eraseIdx k).length = m - 1 := by rw [List.length_eraseIdx_of_lt hkl, ← HML.out]
      have HPF : Hid (∀ v3 w3, Rd w3 (.slice A n c) xs → Rd w3 v3 (nI (l.eraseIdx k)) → Calls Tryd.prog 59 #[.agg #[.int .i64 n, .slice A n c], v3] w3 fun e w' => e = .returned (.int .i64 (pfF (sg xs) m (l.eraseIdx k))) ∧ Below w3.heap.size w3 w') := Lib.hid fun v3 w3 h1 h2 =>
        pfaffian_any n (.slice A n c) xs HP.out (by omega) m (l.eraseIdx k) v3 w3 (by omega) (by omega) (by omega) (hsub.nodup HND.out) (fun x hx => HM.out x (hsub.subset hx)) h1 h2
      have HEI : Hid (nI (l.eraseIdx k) = (nI l).eraseIdx k) := Lib.hid (by unfold nI; rw [List.eraseIdx_eq_take_drop_succ, List.eraseIdx_eq_take_drop_succ]; simp [List.map_take, List.map_drop])
      have HLEN : Hid ((nI l).length = m) := Lib.hid (by rw [nI_len, HML.out])
      have hi1 : IntKind.i64.wrap ((k : Int) + 1) = ((k + 1 : Nat) : Int) := by rw [IntWalk.i64_in _ (by omega)]; omega
      clear hsub hel hzk
      generalize evS xs l k = ev at *
      generalize pfF (sg xs) m (l.eraseIdx k) = P at *
      generalize l.getD k 0 = b at *
      have BD := Lib.hid (show Below w.heap.size w wo.drew from HB.out.drew)
      have HXd := Lib.hid (show TBox wo.drew w.heap.size n (.slice A n c) from HX.out)
      have HOd := Lib.hid (show Own wo.drew w.heap.size (.slice (some ⟨gl, 0, none⟩) n n) (evK xs l n k) from HO.out.drewN 1)
      go_wp2_with fail
      go_region_held3 (fun W => W.cell? ⟨w.heap.size, 0, none⟩ = some (.int .i64 n) ∧ W.cell? ⟨w.heap.size, 1, none⟩ = some (.slice A n c))
        (first | exact ⟨y0, y1⟩ | exact HXd.out | exact HX3.out | exact HX4.out | exact HX5.out | exact HX6.out)
        (first
          | (go_at_call 59; refine (HPF.out _ w4 (HR.out.below HB4.out) HR4.out).mono ?_; rintro e w5 ⟨rfl, hb5⟩; have HX5 := Lib.hid (HX4.out.below hb5); have HB5 := Lib.hid (Below.then HB4.out hb5); have HO5 := Lib.hid (HO4.out.below hb5); have hst := HO5.out.set_ (evK_len xs l n k) b P; have HOS := Lib.hid hst.1; have hcs := HO5.out.at1 (evK_len xs l n k) hn1; have zc := hcs.1 b hbn; have zf := hcs.2 b; have HX6 := Lib.hid (HX5.out.kept hst.2 (by have := HGL.out; simp; omega)); have HBS := Lib.hid (HB5.out.grown hst.2 HB5.out.size (fun q e => by injection e with e; have := HGL.out; omega)); clear hb5 hst hcs)
          | (go_at_call 60; refine (delete_own wo.drew.heap.size g3 m d3 k (nI l) w3 HO3.out HLEN.out hlt).mono ?_; rintro e w4 ⟨rfl, ho4, hb4⟩; have HB4 := Lib.hid (hb4 w.heap.size w BD.out.size HB3.out); have hb43 := hb4 wo.drew.heap.size wo.drew (Nat.le_refl _) HB03.out; have HX4 := Lib.hid (HXd.out.below hb43); have HO4 := Lib.hid (HOd.out.below hb43); have HR4 := Lib.hid (show Rd w4 _ (nI (l.eraseIdx k)) by rw [HEI.out]; exact ho4.rd); clear ho4 hb4 hb43)
          | (go_at_call 61; refine (clone_any _ (nI l) wo.drew (HV.out.below BD.out) (by rw [HLEN.out]; omega) (by rw [HLEN.out]; omega)).mono ?_; rintro e w3 ⟨v3, rfl, ho3, hb3⟩; obtain ⟨g3, d3, rfl, -, -, -, -, -⟩ := ho3.at_ HLEN.out h1; have HO3 := Lib.hid ho3; have HX3 := Lib.hid (HXd.out.below hb3); have HB3 := Lib.hid (Below.then BD.out hb3); have HB03 := Lib.hid hb3; clear ho3 hb3))
      rcases Nat.mod_two_eq_zero_or_one k with hk2 | hk2
      · rw [if_neg (by omega), Int.one_mul] at HES
        have t1 : Int.tmod (k : Int) 2 = 0 := by rw [Int.tmod_eq_emod_of_nonneg (by omega)]; omega
        have t2 : (k : Int) % 2 = 0 := by omega
        have HON := Lib.hid (show Own (w5.setCell ⟨gl, b, none⟩ (.int .i64 P)) w.heap.size (.slice (some ⟨gl, 0, none⟩) n n) (evK xs l n (k + 1)) by rw [HKS.out, HES.out]; exact HOS.out)
        clear HKS HES HOS HPF er er2 hk2
        go_wp2
        go_roundw
        case rel => exact ⟨k + 1, by omega, by go_num, HON, HX6, HBS⟩
        case measure => simp [intOf]; omega
      · rw [if_pos hk2, Int.neg_one_mul] at HES
        have t1 : Int.tmod (k : Int) 2 = 1 := by rw [Int.tmod_eq_emod_of_nonneg (by omega)]; omega
        have t2 : (k : Int) % 2 = 1 := by omega
        have un : IntKind.i64.wrap (-P) = -P := IntWalk.i64_in _ (by omega)
        have hst := HOS.out.set_ (by rw [List.length_set, evK_len]) b (-P)
        rw [List.set_set] at hst
        have HON := Lib.hid (show Own ((w5.setCell ⟨gl, b, none⟩ (.int .i64 P)).setCell ⟨gl, b, none⟩ (.int .i64 (-P))) w.heap.size (.slice (some ⟨gl, 0, none⟩) n n) (evK xs l n (k + 1)) by rw [HKS.out, HES.out]; exact hst.1)
        have HX7 := Lib.hid (HX6.out.kept hst.2 (by have := HGL.out; simp; omega))
        have HBT := Lib.hid (HBS.out.grown hst.2 HBS.out.size (fun q e => by injection e with e; have := HGL.out; omega))
        clear HKS HES HOS HPF er er2 hk2 hst
        go_wp2
        go_roundw
        case rel => exact ⟨k + 1, by omega, by go_num, HON, HX7, HBT⟩
        case measure => simp [intOf]; omega
    · as_aux_lemma =>
      obtain rfl : k = m := by omega
      have hK := HKB.out k (Nat.le_refl _)
      have hl0 : 0 < l.length := by rw [← HML.out]; omega
      have hb0 : l.getD 0 0 < n := HM.out _ (by rw [getD_nat hl0]; exact List.getElem_mem hl0)
      have hz0 : w.cell? ⟨g, off, none⟩ = some (.int .i64 (l.getD 0 0 : Nat)) := by
        have := HC.out 0 (by omega)
        rw [nI_getD hl0] at this
        exact this
      have zl := (HB.out.cell (p := ⟨g, off, none⟩) hg).trans hz0
      have HVD : Hid (evV xs l n = if (evK xs l n k).getD (l.getD 0 0) 0 < 0 then (evK xs l n k).map (fun x => -x) else evK xs l n k) := Lib.hid (by rw [HML.out]; rfl)
      have HVB := Lib.hid (evV_bd (xs := xs) (l := l) (n := n) (by rw [← HML.out]; exact hK))
      have HKL := Lib.hid (evK_len xs l n k)
      have HKK := Lib.hid hK
      obtain ⟨hc1, hc2⟩ := HO.out.at1 HKL.out hn1
      have z0 := hc1 _ hb0
      clear hz0 er er2 hev hc1 hc2 hK
      generalize evK xs l n k = E at *
      generalize l.getD 0 0 = b at *
      generalize E.getD b 0 = x0 at *
      have hdc : (decide (x0 < 0) = true ∧ x0 < 0) ∨ (decide (x0 < 0) = false ∧ ¬ x0 < 0) := by
        by_cases h : x0 < 0
        · exact .inl ⟨decide_eq_true h, h⟩
        · exact .inr ⟨decide_eq_false h, h⟩
      rcases hdc with ⟨d1, d2⟩ | ⟨d1, d2⟩
      · rw [if_pos d2] at HVD
        go_wp2
        go_loopw [57] (fun t57 wr => ∃ (j : Nat), j ≤ n ∧ t57 = .int .i64 j ∧ Hid (Own wr w.heap.size (.slice (some ⟨gl, 0, none⟩) n n) ((E.map fun x => -x).take j ++ E.drop j)) ∧ Hid (Below w.heap.size w wr)) (fun t57 _ => n - (intOf t57).toNat)
        case atStart => exact ⟨0, by omega, rfl, by simpa using HO, HB⟩
        case round =>
          obtain ⟨wi, rfl⟩ : ∃ x, x = wr := ⟨_, rfl⟩
          obtain ⟨j, hj, rfl, HOi, HBi⟩ := hrel
          have HLi : Hid (((E.map fun x => -x).take j ++ E.drop j).length = n) := Lib.hid (by
            rw [List.length_append, List.length_take, List.length_map, List.length_drop, HKL.out]; omega)
          by_cases hltj : j < n
          · obtain ⟨hc1, hc2⟩ := HOi.out.at1 HLi.out hn1
            have z1 := hc1 j hltj
            have f1 := hc2 j
            have hg0 : ((E.map fun x => -x).take j ++ E.drop j).getD j 0 = E.getD j 0 := by
              rw [List.getD_eq_getElem?_getD, List.getElem?_append_right (by rw [List.length_take, List.length_map, HKL.out]; omega), List.length_take, List.length_map, HKL.out, Nat.min_eq_left (by omega), Nat.sub_self, List.getElem?_drop, Nat.add_zero, ← List.getD_eq_getElem?_getD]
            rw [hg0] at z1
            have hst := HOi.out.set_ HLi.out j (-(E.getD j 0))
            rw [set_map_take (fun x => -x) E j (by rw [HKL.out]; exact hltj)] at hst
            have HSO := Lib.hid hst.1
            have HSB := Lib.hid (HBi.out.grown hst.2 HBi.out.size (fun q e => by injection e with e; have := HGL.out; omega))
            have hb := HKK.out j
            generalize E.getD j 0 = x at *
            have u1 : IntKind.i64.wrap (-x) = -x := IntWalk.i64_in _ (by omega)
            clear hst hg0 hc1 hc2
            go_wp2
            go_roundw
            case rel => exact ⟨j + 1, by omega, by go_num, HSO, HSB⟩
            case measure => simp [intOf]; omega
          · obtain rfl : n = j := by omega
            have HF : Hid (Own wi w.heap.size (.slice (some ⟨gl, 0, none⟩) n n) (evV xs l n)) := Lib.hid (by
              have := HOi.out
              rw [List.drop_of_length_le (by rw [HKL.out]; exact Nat.le_refl _), List.append_nil, List.take_of_length_le (by rw [List.length_map, HKL.out]; exact Nat.le_refl _), ← HVD.out] at this
              exact this)
            obtain ⟨wi0, rfl⟩ : ∃ x, x = wi := ⟨_, rfl⟩
            have HOc := HF
            have HBc := HBi
            clear HF HBi HOi HLi
            have HVL := Lib.hid (evV_len xs l n)
            have HVO := Lib.hid (fun j (hj : j ∉ l) => evV_out (xs := xs) (n := n) hj)
            have HGD : Hid (evG xs l n = l.all fun a => decide (0 < (evV xs l n).getD a 0)) := Lib.hid rfl
            clear HO HB HX z0 HVD HKK HKL zl HKB
            obtain ⟨V, hVe⟩ : ∃ V, V = evV xs l n := ⟨_, rfl⟩
            have HVE := Lib.hid hVe
            rw [← hVe] at HVL HVO HVB HGD HOc
            clear hVe
            go_wp2
            go_loopw [71] (fun t71 wr => ∃ (j : Nat), j ≤ k ∧ t71 = .int .i64 j ∧ Hid (∀ i, i < j → 0 < V.getD (l.getD i 0) 0) ∧ Hid (wr = wi0)) (fun t71 _ => k - (intOf t71).toNat)
            case atStart => exact ⟨0, by omega, rfl, Lib.hid (fun i hi => absurd hi (by omega)), Lib.hid rfl⟩
            case round =>
              obtain ⟨wi, rfl⟩ : ∃ x, x = wr := ⟨_, rfl⟩
              obtain ⟨j, hj, rfl, HJ, HW⟩ := hrel
              have HOi := Lib.hid (show Own wi w.heap.size (.slice (some ⟨gl, 0, none⟩) n n) V by rw [HW.out]; exact HOc.out)
              have HBi := Lib.hid (show Below w.heap.size w wi by rw [HW.out]; exact HBc.out)
              by_cases hltj : j < k
              · have hjl : j < l.length := by rw [← HML.out]; exact hltj
                have hzj : w.cell? ⟨g, off + j, none⟩ = some (.int .i64 (l.getD j 0 : Nat)) := by
                  have := HC.out j hltj
                  rw [nI_getD hjl] at this
                  exact this
                have zj := (HBi.out.cell (p := ⟨g, off + j, none⟩) hg).trans hzj
                have hbj : l.getD j 0 < n := HM.out _ (by rw [getD_nat hjl]; exact List.getElem_mem hjl)
                have zv := (HOi.out.at1 HVL.out hn1).1 _ hbj
                have HEX : Hid (¬ 0 < V.getD (l.getD j 0) 0 → evG xs l n = false) := Lib.hid fun h => by
                  rw [HGD.out, List.all_eq_false]
                  exact ⟨l.getD j 0, by rw [getD_nat hjl]; exact List.getElem_mem hjl, by simpa using h⟩
                have HJN : Hid (0 < V.getD (l.getD j 0) 0 → ∀ i, i < j + 1 → 0 < V.getD (l.getD i 0) 0) := Lib.hid fun h i hi => by
                  by_cases e : i = j
                  · subst e; exact h
                  · exact HJ.out i (by omega)
                clear hzj
                generalize l.getD j 0 = b2 at *
                generalize V.getD b2 0 = x at *
                by_cases hx : 0 < x
                · have d1 : decide (x ≤ 0) = false := by simp; omega
                  have d2 : ¬ x ≤ 0 := by omega
                  have HJJ := Lib.hid (HJN.out hx)
                  go_wp2
                  go_roundw
                  case rel => exact ⟨j + 1, by omega, by go_num, HJJ, HW⟩
                  case measure => simp [intOf]; omega
                · have d1 : decide (x ≤ 0) = true := by simp; omega
                  have d2 : x ≤ 0 := by omega
                  have HEE := Lib.hid (HEX.out hx)
                  go_wp2
                  go_ret
                  exact ⟨.slice none 0 0, rfl, fun h => absurd h (by rw [HEE.out]; decide), fun _ => rfl, HBi.out⟩
              · obtain rfl : j = k := by omega
                have HGT : Hid (evG xs l n = true) := Lib.hid (by
                  rw [HGD.out, List.all_eq_true]
                  intro a ha
                  obtain ⟨i, hi, rfl⟩ := List.getElem_of_mem ha
                  have := HJ.out i (by rw [HML.out]; exact hi)
                  rw [getD_nat hi] at this
                  simpa using this)
                have HPS : Hid (∀ x ∈ V, 0 ≤ x ∧ x ≤ 4611686018427387904) := Lib.hid fun x hx => by
                  obtain ⟨i, hi, rfl⟩ := List.getElem_of_mem hx
                  have hb := HVB.out i
                  have e : V.getD i 0 = V[i] := by simp [hi]
                  rw [e] at hb
                  by_cases hil : i ∈ l
                  · obtain ⟨q, hq, he⟩ := List.getElem_of_mem hil
                    have h1 := HJ.out q (by rw [HML.out]; exact hq)
                    rw [getD_nat hq, he, e] at h1
                    omega
                  · have h1 := HVO.out i hil
                    rw [e] at h1
                    omega
                have HNZ : Hid (gcdL V ≠ 0) := Lib.hid (by
                  have h1 := HJ.out 0 (by omega)
                  have hl0' : 0 < l.length := by rw [← HML.out]; omega
                  have hb := HM.out _ (show l.getD 0 0 ∈ l by rw [getD_nat hl0']; exact List.getElem_mem hl0')
                  have hbv : l.getD 0 0 < V.length := by rw [HVL.out]; exact hb
                  generalize l.getD 0 0 = b0 at *
                  have := gcdL_pos (xs := V) ⟨V[b0], List.getElem_mem _, by
                    have e : V.getD b0 0 = V[b0] := by simp [hbv]
                    rw [← e]; exact h1⟩
                  omega)
                have HVN : Hid (V ≠ []) := Lib.hid (by intro e; have h := HVL.out; rw [e, List.length_nil] at h; omega)
                go_wp2_with fail
                refine (lowest_any _ V wi HOi.out.rd HPS.out HNZ.out (by rw [HVL.out]; omega)).mono ?_
                rintro e w9 ⟨v9, rfl, ho9, hb9, hn9⟩
                have HO9 := Lib.hid (ho9.mono HBi.out.size)
                have HB9 := Lib.hid (Below.then HBi.out hb9)
                have HN9 := Lib.hid (hn9 HVN.out)
                clear ho9 hb9 hn9
                go_wp2
                go_ret
                exact ⟨v9, rfl, fun _ => ⟨by rw [← HVE.out]; exact HO9.out, HN9.out⟩, fun h => absurd h (by rw [HGT.out]; decide), HB9.out⟩
      · rw [if_neg d2] at HVD
        rw [← HVD.out] at HO
        have HOc := HO
        have HBc := HB
        have HVL := Lib.hid (evV_len xs l n)
        have HVO := Lib.hid (fun j (hj : j ∉ l) => evV_out (xs := xs) (n := n) hj)
        have HGD : Hid (evG xs l n = l.all fun a => decide (0 < (evV xs l n).getD a 0)) := Lib.hid rfl
        clear HX HVD HKK HKL HKB
        obtain ⟨V, hVe⟩ : ∃ V, V = evV xs l n := ⟨_, rfl⟩
        have HVE := Lib.hid hVe
        rw [← hVe] at HVL HVO HVB HGD HOc
        clear hVe
        go_wp2
        go_loopw [71] (fun t71 wr => ∃ (j : Nat), j ≤ k ∧ t71 = .int .i64 j ∧ Hid (∀ i, i < j → 0 < V.getD (l.getD i 0) 0) ∧ Hid (wr = wo)) (fun t71 _ => k - (intOf t71).toNat)
        case atStart => exact ⟨0, by omega, rfl, Lib.hid (fun i hi => absurd hi (by omega)), Lib.hid rfl⟩
        case round =>
          obtain ⟨wi, rfl⟩ : ∃ x, x = wr := ⟨_, rfl⟩
          obtain ⟨j, hj, rfl, HJ, HW⟩ := hrel
          have HOi := Lib.hid (show Own wi w.heap.size (.slice (some ⟨gl, 0, none⟩) n n) V by rw [HW.out]; exact HOc.out)
          have HBi := Lib.hid (show Below w.heap.size w wi by rw [HW.out]; exact HBc.out)
          by_cases hltj : j < k
          · have hjl : j < l.length := by rw [← HML.out]; exact hltj
            have hzj : w.cell? ⟨g, off + j, none⟩ = some (.int .i64 (l.getD j 0 : Nat)) := by
              have := HC.out j hltj
              rw [nI_getD hjl] at this
              exact this
            have zj := (HBi.out.cell (p := ⟨g, off + j, none⟩) hg).trans hzj
            have hbj : l.getD j 0 < n := HM.out _ (by rw [getD_nat hjl]; exact List.getElem_mem hjl)
            have zv := (HOi.out.at1 HVL.out hn1).1 _ hbj
            have HEX : Hid (¬ 0 < V.getD (l.getD j 0) 0 → evG xs l n = false) := Lib.hid fun h => by
              rw [HGD.out, List.all_eq_false]
              exact ⟨l.getD j 0, by rw [getD_nat hjl]; exact List.getElem_mem hjl, by simpa using h⟩
            have HJN : Hid (0 < V.getD (l.getD j 0) 0 → ∀ i, i < j + 1 → 0 < V.getD (l.getD i 0) 0) := Lib.hid fun h i hi => by
              by_cases e : i = j
              · subst e; exact h
              · exact HJ.out i (by omega)
            clear hzj
            generalize l.getD j 0 = b2 at *
            generalize V.getD b2 0 = x at *
            by_cases hx : 0 < x
            · have d1 : decide (x ≤ 0) = false := by simp; omega
              have d2 : ¬ x ≤ 0 := by omega
              have HJJ := Lib.hid (HJN.out hx)
              go_wp2
              go_roundw
              case rel => exact ⟨j + 1, by omega, by go_num, HJJ, HW⟩
              case measure => simp [intOf]; omega
            · have d1 : decide (x ≤ 0) = true := by simp; omega
              have d2 : x ≤ 0 := by omega
              have HEE := Lib.hid (HEX.out hx)
              go_wp2
              go_ret
              exact ⟨.slice none 0 0, rfl, fun h => absurd h (by rw [HEE.out]; decide), fun _ => rfl, HBi.out⟩
          · obtain rfl : j = k := by omega
            have HGT : Hid (evG xs l n = true) := Lib.hid (by
              rw [HGD.out, List.all_eq_true]
              intro a ha
              obtain ⟨i, hi, rfl⟩ := List.getElem_of_mem ha
              have := HJ.out i (by rw [HML.out]; exact hi)
              rw [getD_nat hi] at this
              simpa using this)
            have HPS : Hid (∀ x ∈ V, 0 ≤ x ∧ x ≤ 4611686018427387904) := Lib.hid fun x hx => by
              obtain ⟨i, hi, rfl⟩ := List.getElem_of_mem hx
              have hb := HVB.out i
              have e : V.getD i 0 = V[i] := by simp [hi]
              rw [e] at hb
              by_cases hil : i ∈ l
              · obtain ⟨q, hq, he⟩ := List.getElem_of_mem hil
                have h1 := HJ.out q (by rw [HML.out]; exact hq)
                rw [getD_nat hq, he, e] at h1
                omega
              · have h1 := HVO.out i hil
                rw [e] at h1
                omega
            have HNZ : Hid (gcdL V ≠ 0) := Lib.hid (by
              have h1 := HJ.out 0 (by omega)
              have hl0' : 0 < l.length := by rw [← HML.out]; omega
              have hb := HM.out _ (show l.getD 0 0 ∈ l by rw [getD_nat hl0']; exact List.getElem_mem hl0')
              have hbv : l.getD 0 0 < V.length := by rw [HVL.out]; exact hb
              generalize l.getD 0 0 = b0 at *
              have := gcdL_pos (xs := V) ⟨V[b0], List.getElem_mem _, by
                have e : V.getD b0 0 = V[b0] := by simp [hbv]
                rw [← e]; exact h1⟩
              omega)
            have HVN : Hid (V ≠ []) := Lib.hid (by intro e; have h := HVL.out; rw [e, List.length_nil] at h; omega)
            go_wp2_with fail
            refine (lowest_any _ V wi HOi.out.rd HPS.out HNZ.out (by rw [HVL.out]; omega)).mono ?_
            rintro e w9 ⟨v9, rfl, ho9, hb9, hn9⟩
            have HO9 := Lib.hid (ho9.mono HBi.out.size)
            have HB9 := Lib.hid (Below.then HBi.out hb9)
            have HN9 := Lib.hid (hn9 HVN.out)
            clear ho9 hb9 hn9
            go_wp2
            go_ret
            exact ⟨v9, rfl, fun _ => ⟨by rw [← HVE.out]; exact HO9.out, HN9.out⟩, fun h => absurd h (by rw [HGT.out]; decide), HB9.out⟩
end Go.Proofs.YthoodjjjklbggaaDoor

namespace Go.Proofs.YthoodjjjklbggaaDoor
set_option maxRecDepth 100000
theorem pfS_map (A : Nat → Nat → Int) (p : Nat → Nat) (h : Nat) (F G : List Nat → Int) (hFG : ∀ l, F (l.map p) = G l) : ∀ (t pre : List Nat) (s : Int), pfS A (p h) F (pre.map p) (t.map p) s = pfS (fun i k => A (p i) (p k)) h G pre t s := by
  intro t
  induction t with
  | nil => intro pre s; rfl
  | cons x t ih =>
    intro pre s
    have e := ih (pre ++ [x]) (-s)
    rw [List.map_append] at e
    simp only [List.map_cons, pfS]
    rw [← List.map_append, hFG]
    simp only [List.map_cons, List.map_nil] at e
    rw [e]
theorem pfF_map (A : Nat → Nat → Int) (p : Nat → Nat) : ∀ (f : Nat) (l : List Nat), pfF A f (l.map p) = pfF (fun i k => A (p i) (p k)) f l := by
  intro f
  induction f with
  | zero => intro l; rfl
  | succ f ih =>
    intro l
    cases l with
    | nil => rfl
    | cons h t =>
      simp only [List.map_cons, pfF]
      exact pfS_map A p h _ _ ih t [] 1
/-- the table of a list of players -/
def tabL (xs : List Int) (l : List Nat) (i k : Nat) : Int := sg xs (l.getD i 0) (l.getD k 0)
theorem eraseIdx_map {α β : Type} (f : α → β) : ∀ (L : List α) (k : Nat), (L.map f).eraseIdx k = (L.eraseIdx k).map f := by
  intro L
  induction L with
  | nil => intro k; rfl
  | cons a L ih =>
    intro k
    cases k with
    | zero => rfl
    | succ k => simp only [List.map_cons, List.eraseIdx_cons_succ, ih]
theorem erase_map (l : List Nat) (k : Nat) : l.eraseIdx k = ((List.range l.length).eraseIdx k).map fun i => l.getD i 0 := by
  have e : l = (List.range l.length).map fun i => l.getD i 0 := List.ext_getElem (by simp) fun i h1 h2 => by simp [h1]
  have h2 := eraseIdx_map (fun i => l.getD i 0) (List.range l.length) k
  rw [← h2, ← e]
theorem evS_pf (xs : List Int) (l : List Nat) (k : Nat) : evS xs l k = pfV (tabL xs l) l.length k := by
  unfold evS pfV
  rw [erase_map l k, pfF_map]
  rfl
theorem tabL_sk {n : Nat} {xs : List Int} (hp : tourP n xs) {l : List Nat} (hnd : l.Nodup) (hm : ∀ x ∈ l, x < n) : SkT (tabL xs l) l.length := by
  have hs := sg_sk hp
  have hin : ∀ i, i < l.length → l.getD i 0 < n := fun i hi => hm _ (by rw [getD_nat hi]; exact List.getElem_mem hi)
  have hne : ∀ i k, i < l.length → k < l.length → i ≠ k → l.getD i 0 ≠ l.getD k 0 := fun i k hi hk h e => h (by
    rw [getD_nat hi, getD_nat hk] at e; exact (List.getElem_inj hnd).1 e)
  exact ⟨fun i hi => hs.diag _ (hin i hi), fun i k hi hk => hs.skew _ _ (hin i hi) (hin k hk), fun i k hi hk h => hs.one _ _ (hin i hi) (hin k hk) (hne i k hi hk h)⟩
/-- the weight that stands at a player of the list -/
theorem evK_at {xs : List Int} {l : List Nat} {n : Nat} (hnd : l.Nodup) (hm : ∀ x ∈ l, x < n) : ∀ k, k ≤ l.length → ∀ i, i < k → (evK xs l n k).getD (l.getD i 0) 0 = evS xs l i := by
  intro k
  induction k with
  | zero => intro _ i hi; omega
  | succ k ih =>
    intro hk i hi
    have hb : l.getD k 0 < (evK xs l n k).length := by rw [evK_len]; exact hm _ (by rw [getD_nat (by omega)]; exact List.getElem_mem _)
    simp only [evK]
    by_cases e : i = k
    · subst e
      rw [List.getD_eq_getElem?_getD, List.getElem?_set_self hb]
      rfl
    · have hne : l.getD k 0 ≠ l.getD i 0 := fun h => e (by
        rw [getD_nat (show k < l.length by omega), getD_nat (show i < l.length by omega)] at h
        exact ((List.getElem_inj hnd).1 h).symm)
      rw [List.getD_eq_getElem?_getD, List.getElem?_set_ne hne, ← List.getD_eq_getElem?_getD]
      exact ih (by omega) i (by omega)
end Go.Proofs.YthoodjjjklbggaaDoor

namespace Go.Proofs.YthoodjjjklbggaaDoor
set_option maxRecDepth 100000
/-- an entry of a list of rows -/
def mE (L : List (List Int)) (r i : Nat) : Int := (L.getD r []).getD i 0
/-- the rows behind the exchange of p and c -/
def swR (L : List (List Int)) (c p : Nat) : List (List Int) := (L.set p (L.getD c [])).set c (L.getD p [])
/-- the rows of which the first r are reduced by row c -/
def rdR (S : List (List Int)) (c r : Nat) : List (List Int) := (List.range S.length).map fun k => if k < r ∧ k ≠ c ∧ mE S k c ≠ 0 then redL (S.getD k []) (S.getD c []) c else S.getD k []
theorem swR_len (L : List (List Int)) (c p : Nat) : (swR L c p).length = L.length := by simp [swR]
theorem swR_at {L : List (List Int)} {c p k : Nat} (hk : k < L.length) : (swR L c p).getD k [] = if k = c then L.getD p [] else if k = p then L.getD c [] else L.getD k [] := by
  unfold swR
  rw [List.getD_eq_getElem?_getD, List.getElem?_set]
  by_cases h1 : c = k
  · subst h1
    rw [if_pos rfl, if_pos (by rw [List.length_set]; exact hk), if_pos rfl]; rfl
  · rw [if_neg h1, if_neg (fun h => h1 h.symm), List.getElem?_set]
    by_cases h2 : p = k
    · subst h2
      rw [if_pos rfl, if_pos hk, if_pos rfl]; rfl
    · rw [if_neg h2, if_neg (fun h => h2 h.symm), ← List.getD_eq_getElem?_getD]
theorem rdR_len (S : List (List Int)) (c r : Nat) : (rdR S c r).length = S.length := by simp [rdR]
theorem rdR_at {S : List (List Int)} {c r k : Nat} (hk : k < S.length) : (rdR S c r).getD k [] = if k < r ∧ k ≠ c ∧ mE S k c ≠ 0 then redL (S.getD k []) (S.getD c []) c else S.getD k [] := by
  unfold rdR
  simp [List.getD_eq_getElem?_getD, hk]
theorem rows_ext {L M : List (List Int)} (h : L.length = M.length) (he : ∀ k, k < L.length → L.getD k [] = M.getD k []) : L = M := by
  refine List.ext_getElem h fun i h1 h2 => ?_
  have := he i h1
  rwa [List.getD_eq_getElem?_getD, List.getD_eq_getElem?_getD, List.getElem?_eq_getElem h1, List.getElem?_eq_getElem h2] at this
theorem rdR_zero (S : List (List Int)) (c : Nat) : rdR S c 0 = S := rows_ext (rdR_len _ _ _) fun k hk => by
  rw [rdR_len] at hk
  rw [rdR_at hk, if_neg (fun h => absurd h.1 (by omega))]
theorem rdR_keep {S : List (List Int)} {c r : Nat} (h : ¬ (r ≠ c ∧ mE S r c ≠ 0)) : rdR S c (r + 1) = rdR S c r := rows_ext (by rw [rdR_len, rdR_len]) fun k hk => by
  rw [rdR_len] at hk
  rw [rdR_at hk, rdR_at hk]
  by_cases e : k = r
  · subst e
    rw [if_neg (fun q => h q.2), if_neg (fun q => h q.2)]
  · by_cases q : k < r ∧ k ≠ c ∧ mE S k c ≠ 0
    · rw [if_pos q, if_pos ⟨by omega, q.2⟩]
    · rw [if_neg q, if_neg (fun q2 => q ⟨by omega, q2.2⟩)]
theorem rdR_red {S : List (List Int)} {c r : Nat} (hr : r < S.length) (h1 : r ≠ c) (h2 : mE S r c ≠ 0) : rdR S c (r + 1) = (rdR S c r).set r (redL (S.getD r []) (S.getD c []) c) := rows_ext (by rw [List.length_set, rdR_len, rdR_len]) fun k hk => by
  rw [rdR_len] at hk
  rw [rdR_at hk]
  by_cases e : k = r
  · subst e
    rw [if_pos ⟨by omega, h1, h2⟩, List.getD_eq_getElem?_getD (l := List.set _ _ _), List.getElem?_set_self (by rw [rdR_len]; exact hk)]; rfl
  · rw [List.getD_eq_getElem?_getD (l := List.set _ _ _), List.getElem?_set_ne (fun q => e q.symm), ← List.getD_eq_getElem?_getD, rdR_at hk]
    by_cases q : k < r ∧ k ≠ c ∧ mE S k c ≠ 0
    · rw [if_pos q, if_pos ⟨by omega, q.2⟩]
    · rw [if_neg q, if_neg (fun q2 => q ⟨by omega, q2.2⟩)]
theorem rdR_own {S : List (List Int)} {c r : Nat} (hr : r < S.length) : (rdR S c r).getD r [] = S.getD r [] := by
  rw [rdR_at hr, if_neg (fun h => absurd h.1 (by omega))]
theorem rdR_piv {S : List (List Int)} {c r : Nat} (hc : c < S.length) : (rdR S c r).getD c [] = S.getD c [] := by
  rw [rdR_at hc, if_neg (fun h => h.2.1 rfl)]
/-- all rows are n long -/
def rowsN (L : List (List Int)) (n : Nat) : Prop := L.length = n ∧ ∀ k, k < n → (L.getD k []).length = n
theorem swR_N {L : List (List Int)} {n c p : Nat} (h : rowsN L n) (hc : c < n) (hp : p < n) : rowsN (swR L c p) n := by
  refine ⟨by rw [swR_len]; exact h.1, fun k hk => ?_⟩
  rw [swR_at (by rw [h.1]; exact hk)]
  split
  · exact h.2 p hp
  · split
    · exact h.2 c hc
    · exact h.2 k hk
theorem rdR_N {S : List (List Int)} {n c : Nat} (h : rowsN S n) (r : Nat) : rowsN (rdR S c r) n := by
  refine ⟨by rw [rdR_len]; exact h.1, fun k hk => ?_⟩
  rw [rdR_at (by rw [h.1]; exact hk)]
  split
  · rw [redL_len]; exact h.2 k hk
  · exact h.2 k hk
theorem gs_congr {A M M' : Nat → Nat → Int} {n c : Nat} (h : GsS A n c M) (hc : c ≤ n) (he : ∀ r i, r < n → i < n → M' r i = M r i) : GsS A n c M' := by
  have hs : ∀ (w : Nat → Int) r, r < n → sumN (fun i => M' r i * w i) n = sumN (fun i => M r i * w i) n := fun w r hr => sumN_congr fun i hi => by rw [he r i hr hi]
  refine ⟨?_, ?_, ?_, ?_, ?_, ?_, ?_, ?_⟩
  · intro w hw r hr; rw [hs w r hr]; exact h.sol w hw r hr
  · intro w hw; exact h.los w fun r hr => by rw [← hs w r hr]; exact hw r hr
  · intro r j hr hj hjc hjr; rw [he r j hr hj]; exact h.zero r j hr hj hjc hjr
  · intro r hr; rw [he r r (by omega) (by omega)]; exact h.piv r hr
  · intro r i hr hi; rw [he r i hr hi]; exact h.bd r i hr hi
  · intro h1 h2 r hr; rw [he r c hr h2]; exact h.col h1 h2 r hr
  · intro h0 r i hr hi; rw [he r i hr hi]; exact h.ini h0 r i hr hi
  · intro r hr d hd
    rcases h.prim r hr d (fun i hi => by rw [← he r i hr hi]; exact hd i hi) with e | e
    · exact .inl e
    · exact .inr fun i hi => by rw [he r i hr hi]; exact e i hi
/-- the table of a list -/
def tbL (xs : List Int) (l : List Nat) : List (List Int) := l.map fun b => l.map fun a => sg xs a b
theorem tbL_N (xs : List Int) (l : List Nat) : rowsN (tbL xs l) l.length := by
  refine ⟨by simp [tbL], fun k hk => ?_⟩
  unfold tbL
  simp [List.getD_eq_getElem?_getD, hk]
theorem tbL_at {xs : List Int} {l : List Nat} {r i : Nat} (hr : r < l.length) (hi : i < l.length) : mE (tbL xs l) r i = tabL xs l i r := by
  unfold mE tbL tabL
  simp [List.getD_eq_getElem?_getD, hr, hi]
theorem ks_start {xs : List Int} {l : List Nat} (hA : SkT (tabL xs l) l.length) : GsS (tabL xs l) l.length 0 (mE (tbL xs l)) :=
  gs_congr (gs_start hA) (Nat.zero_le _) fun _ _ hr hi => tbL_at hr hi
theorem ks_step {A : Nat → Nat → Int} {L : List (List Int)} {n c p : Nat} (hA : SkT A n) (hN : rowsN L n) (h : GsS A n c (mE L)) (hc : c + 1 < n) (h7 : n ≤ 7) (hcp : c ≤ p) (hp : p < n) (hpc : mE L p c ≠ 0) (hfirst : ∀ q, c ≤ q → q < p → mE L q c = 0) :
    GsS A n (c + 1) (mE (rdR (swR L c p) c n)) := by
  have hS := swR_N hN (show c < n by omega) hp
  have hcc : (swR L c p).getD c [] = L.getD p [] := by rw [swR_at (by rw [hN.1]; omega), if_pos rfl]
  refine gs_step hA h hc h7 hcp hp hpc hfirst ?_ ?_
  · intro i hi
    unfold mE
    rw [rdR_piv (by rw [hS.1]; omega), hcc]
  · intro r hr hrc
    have hrS : (swR L c p).getD r [] = L.getD (if r = p then c else r) [] := by
      rw [swR_at (by rw [hN.1]; exact hr), if_neg hrc]
      split <;> rfl
    have hs : (if r = p then c else r) < n := by split <;> omega
    have he : mE (swR L c p) r c = mE L (if r = p then c else r) c := by unfold mE; rw [hrS]
    constructor
    · intro h0 i hi
      unfold mE
      rw [rdR_at (by rw [hS.1]; exact hr), if_neg (fun q => q.2.2 (by rw [he]; exact h0)), hrS]
    · intro h0
      have e : mE (rdR (swR L c p) c n) r = fun i => (redL (L.getD (if r = p then c else r) []) (L.getD p []) c).getD i 0 := by
        funext i
        unfold mE
        rw [rdR_at (by rw [hS.1]; exact hr), if_pos ⟨hr, hrc, by rw [he]; exact h0⟩, hrS, hcc]
      rw [e]
      exact redL_P (hN.2 _ hs)
/-- the least common multiple of the first pivots -/
def lcN (d : Nat → Nat) : Nat → Nat
  | 0 => 1
  | k + 1 => lcN d k / Nat.gcd (lcN d k) (d k) * d k
theorem lcN_lcm (d : Nat → Nat) (k : Nat) : lcN d (k + 1) = Nat.lcm (lcN d k) (d k) := by
  show lcN d k / Nat.gcd (lcN d k) (d k) * d k = lcN d k * d k / Nat.gcd (lcN d k) (d k)
  exact Nat.div_mul_right_comm (Nat.gcd_dvd_left _ _) _
theorem lcN_facts {d : Nat → Nat} {P : Nat} (hP : 0 < P) : ∀ k, (∀ r, r < k → d r ∣ P) → lcN d k ∣ P ∧ 0 < lcN d k ∧ ∀ r, r < k → d r ∣ lcN d k := by
  intro k
  induction k with
  | zero => intro _; exact ⟨Nat.one_dvd _, Nat.one_pos, fun r h => absurd h (by omega)⟩
  | succ k ih =>
    intro h
    obtain ⟨h1, h2, h3⟩ := ih fun r hr => h r (by omega)
    rw [lcN_lcm]
    have hl := Nat.lcm_dvd h1 (h k (by omega))
    refine ⟨hl, Nat.pos_of_dvd_of_pos hl hP, fun r hr => ?_⟩
    by_cases e : r = k
    · subst e; exact Nat.dvd_lcm_right _ _
    · exact Nat.dvd_trans (h3 r (by omega)) (Nat.dvd_lcm_left _ _)
/-- the weights before they come down: the first k of them -/
def ouE (L : List (List Int)) (n : Nat) (sc : Int) (i : Nat) : Int := Int.tdiv (-(mE L i (n - 1)) * sc) (mE L i i)
def ouL (L : List (List Int)) (n : Nat) (sc : Int) (k : Nat) : List Int := (List.range n).map fun i => if i = n - 1 then sc else if i < k then ouE L n sc i else 0
theorem ouL_len (L : List (List Int)) (n : Nat) (sc : Int) (k : Nat) : (ouL L n sc k).length = n := by simp [ouL]
theorem ouL_at {L : List (List Int)} {n : Nat} {sc : Int} {k i : Nat} (hi : i < n) : (ouL L n sc k).getD i 0 = if i = n - 1 then sc else if i < k then ouE L n sc i else 0 := by
  unfold ouL
  simp [List.getD_eq_getElem?_getD, hi]
theorem ints_ext {L M : List Int} (h : L.length = M.length) (he : ∀ k, k < L.length → L.getD k 0 = M.getD k 0) : L = M := by
  refine List.ext_getElem h fun i h1 h2 => ?_
  have := he i h1
  rwa [List.getD_eq_getElem?_getD, List.getD_eq_getElem?_getD, List.getElem?_eq_getElem h1, List.getElem?_eq_getElem h2] at this
theorem ouL_zero (L : List (List Int)) {n : Nat} (sc : Int) (_hn : 0 < n) : (List.replicate n (0 : Int)).set (n - 1) sc = ouL L n sc 0 := ints_ext (by rw [ouL_len]; simp) fun k hk => by
  simp only [List.length_set, List.length_replicate] at hk
  rw [ouL_at hk, List.getD_eq_getElem?_getD, List.getElem?_set]
  by_cases e : n - 1 = k
  · rw [if_pos e, if_pos (by simp; omega), if_pos e.symm]; rfl
  · rw [if_neg e, if_neg (fun h => e h.symm), if_neg (by omega)]
    simp [hk]
theorem ouL_succ (L : List (List Int)) {n : Nat} (sc : Int) {k : Nat} (hk : k < n - 1) : (ouL L n sc k).set k (ouE L n sc k) = ouL L n sc (k + 1) := ints_ext (by rw [List.length_set, ouL_len, ouL_len]) fun j hj => by
  rw [List.length_set, ouL_len] at hj
  rw [ouL_at hj, List.getD_eq_getElem?_getD, List.getElem?_set]
  by_cases e : k = j
  · subst e
    rw [if_pos rfl, if_pos (by rw [ouL_len]; exact hj), if_neg (by omega), if_pos (by omega)]; rfl
  · rw [if_neg e, ← List.getD_eq_getElem?_getD, ouL_at hj]
    split
    · rfl
    · by_cases q : j < k
      · rw [if_pos q, if_pos (by omega)]
      · rw [if_neg q, if_neg (by omega)]
def pvD (L : List (List Int)) (r : Nat) : Nat := (mE L r r).natAbs
structure KerF (A : Nat → Nat → Int) (n : Nat) (L : List (List Int)) : Prop where
  last : mE L (n - 1) (n - 1) = 0
  piv : ∀ r, r < n - 1 → mE L r r ≠ 0 ∧ (mE L r r).natAbs ≤ 15 ∧ (mE L r (n - 1)).natAbs ≤ 15
  sc : ∀ k, k ≤ n - 1 → 0 < lcN (pvD L) k ∧ lcN (pvD L) k ≤ 15
  ou : ∀ i, i < n → (ouL L n (lcN (pvD L) (n - 1)) (n - 1)).getD i 0 * pfV A n (n - 1) = (lcN (pvD L) (n - 1) : Int) * pfV A n i
theorem ker_f {A : Nat → Nat → Int} {n : Nat} {L : List (List Int)} (hA : SkT A n) (hodd : n % 2 = 1) (h7 : n ≤ 7) (h : GsS A n (n - 1) (mE L)) : KerF A n L := by
  obtain ⟨h1, h2⟩ := gs_end hA hodd h7 h
  have hlast := pfV_facts hA hodd h7 (i := n - 1) (by omega)
  have hP : 0 < (pfV A n (n - 1)).natAbs := by omega
  have hd : ∀ r, r < n - 1 → pvD L r ∣ (pfV A n (n - 1)).natAbs := fun r hr => Int.natAbs_dvd_natAbs.2 (h2 r hr).2.2.1
  have hsc := fun k (hk : k ≤ n - 1) => lcN_facts hP k fun r hr => hd r (by omega)
  refine ⟨h1, fun r hr => ⟨(h2 r hr).1, (h2 r hr).2.2.2.1, (h2 r hr).2.2.2.2⟩, fun k hk => ⟨(hsc k hk).2.1, ?_⟩, fun i hi => ?_⟩
  · have := Nat.le_of_dvd hP (hsc k hk).1
    omega
  · rw [ouL_at hi]
    by_cases e : i = n - 1
    · subst e; rw [if_pos rfl]
    · rw [if_neg e, if_pos (by omega)]
      obtain ⟨q1, q2, -, -, -⟩ := h2 i (by omega)
      have hdv : mE L i i ∣ (lcN (pvD L) (n - 1) : Int) := Int.natAbs_dvd_natAbs.1 (by
        have := (hsc (n - 1) (Nat.le_refl _)).2.2 i (by omega)
        exact this)
      generalize (lcN (pvD L) (n - 1) : Int) = s at *
      have hm : mE L i i * ouE L n s i = -(mE L i (n - 1)) * s := Int.mul_tdiv_cancel' (Int.dvd_trans hdv (Int.dvd_mul_left _ _))
      have : mE L i i * (ouE L n s i * pfV A n (n - 1)) = mE L i i * (s * pfV A n i) := by
        rw [← Int.mul_assoc, hm, Int.mul_comm s, ← Int.mul_assoc, q2, Int.mul_assoc, Int.mul_assoc, Int.mul_comm s]
      exact Int.eq_of_mul_eq_mul_left q1 this
/-- the kernel's row -/
def krL (xs : List Int) (l : List Nat) (n : Nat) : List Int := l.map fun a => (lowL (evV xs l n)).getD a 0
theorem ker_ans {xs : List Int} {l : List Nat} {n : Nat} {L : List (List Int)} (hp : tourP n xs) (hl : l.length % 2 = 1) (h7 : l.length ≤ 7) (hnd : l.Nodup) (hm : ∀ x ∈ l, x < n) (hK : KerF (tabL xs l) l.length L) {O : List Int} (hO : O = ouL L l.length (lcN (pvD L) (l.length - 1)) (l.length - 1)) :
    (evG xs l n = true ↔ ∀ i, i < l.length → 0 < O.getD i 0) ∧ (evG xs l n = true → lowL O = krL xs l n) := by
  have hA := tabL_sk hp hnd hm
  have hlO : O.length = l.length := by rw [hO, ouL_len]
  obtain ⟨hs1, hs2⟩ := hK.sc (l.length - 1) (Nat.le_refl _)
  have hou := hK.ou
  rw [← hO] at hou
  generalize lcN (pvD L) (l.length - 1) = s at *
  have hlast := pfV_facts hA hl h7 (i := l.length - 1) (by omega)
  have hfirst := pfV_facts hA hl h7 (i := 0) (by omega)
  have hV : ∀ i, i < l.length → (evV xs l n).getD (l.getD i 0) 0 = if pfV (tabL xs l) l.length 0 < 0 then -(pfV (tabL xs l) l.length i) else pfV (tabL xs l) l.length i := fun i hi => by
    have e0 := evK_at (xs := xs) hnd hm l.length (Nat.le_refl _) 0 (by omega)
    have ei := evK_at (xs := xs) hnd hm l.length (Nat.le_refl _) i hi
    rw [evS_pf] at e0 ei
    unfold evV
    rw [e0]
    split
    · rw [neg_getD, ei]
    · exact ei
  have hG : evG xs l n = true ↔ ∀ i, i < l.length → 0 < (evV xs l n).getD (l.getD i 0) 0 := by
    unfold evG
    rw [List.all_eq_true]
    constructor
    · intro h i hi
      have := h (l.getD i 0) (by rw [getD_nat hi]; exact List.getElem_mem _)
      simpa using this
    · intro h a ha
      obtain ⟨i, hi, rfl⟩ := List.getElem_of_mem ha
      have := h i hi
      rw [getD_nat hi] at this
      simpa using this
  have hsP : (0 : Int) < (s : Int) := by omega
  have hf : ∀ i, i < l.length → pfV (tabL xs l) l.length i ≠ 0 := fun i hi => by
    have := pfV_facts hA hl h7 hi
    omega
  -- one weight by the other
  obtain ⟨P, hPe⟩ : ∃ P, P = (pfV (tabL xs l) l.length (l.length - 1)).natAbs := ⟨_, rfl⟩
  have hP0 : (0 : Int) < (P : Int) := by omega
  have key : 0 < (evV xs l n).getD (l.getD (l.length - 1) 0) 0 → ∀ i, i < l.length → (P : Int) * O.getD i 0 = (s : Int) * (evV xs l n).getD (l.getD i 0) 0 := by
    intro h0 i hi
    have h1 := hou i hi
    rw [hV _ (by omega)] at h0
    rw [hV i hi]
    split at h0
    · rename_i hneg
      rw [if_pos hneg]
      have e : (P : Int) = -(pfV (tabL xs l) l.length (l.length - 1)) := by omega
      rw [e, Int.neg_mul, Int.mul_comm, h1, Int.mul_neg]
    · rename_i hneg
      rw [if_neg hneg]
      have e : (P : Int) = pfV (tabL xs l) l.length (l.length - 1) := by omega
      rw [e, Int.mul_comm, h1]
  have hiff : evG xs l n = true ↔ ∀ i, i < l.length → 0 < O.getD i 0 := by
    rw [hG]
    constructor
    · intro h i hi
      have hk := key (h _ (by omega)) i hi
      have h1 : 0 < (s : Int) * (evV xs l n).getD (l.getD i 0) 0 := Int.mul_pos hsP (h i hi)
      rw [← hk] at h1
      exact Int.pos_of_mul_pos_right h1 hP0
    · intro h i hi
      rw [hV i hi]
      have hsign : ∀ j, j < l.length → (0 < pfV (tabL xs l) l.length j ↔ 0 < pfV (tabL xs l) l.length (l.length - 1)) := fun j hj => by
        have h1 := hou j hj
        have h2 := h j hj
        constructor
        · intro h3
          have h4 : 0 < (s : Int) * pfV (tabL xs l) l.length j := Int.mul_pos hsP h3
          rw [← h1] at h4
          exact Int.pos_of_mul_pos_right h4 h2
        · intro h3
          have h4 := Int.mul_pos h2 h3
          rw [h1] at h4
          exact Int.pos_of_mul_pos_right h4 hsP
      have a := hsign i hi
      have b := hsign 0 (by omega)
      have c := hf i hi
      have d := hf 0 (by omega)
      split <;> omega
  refine ⟨hiff, fun hg => ?_⟩
  have hpos := hG.1 hg
  have hk := key (hpos _ (by omega))
  have hW : lowL O = lowL (l.map fun a => (evV xs l n).getD a 0) := by
    refine low_eq (c := P) (d := s) (by omega) hs1 (ints_ext (by simp [hlO]) fun i hi => ?_)
    rw [List.length_map, hlO] at hi
    have e1 : (O.map fun x => (P : Int) * x).getD i 0 = (P : Int) * O.getD i 0 := by simp [List.getD_eq_getElem?_getD, show i < O.length by omega]
    have e2 : ((l.map fun a => (evV xs l n).getD a 0).map fun x => (s : Int) * x).getD i 0 = (s : Int) * (evV xs l n).getD (l.getD i 0) 0 := by simp [List.getD_eq_getElem?_getD, hi]
    rw [e1, e2, hk i hi]
  have hgc : gcdL (l.map fun a => (evV xs l n).getD a 0) = gcdL (evV xs l n) := by
    refine Nat.dvd_antisymm (gcdL_great fun x hx => ?_) (gcdL_great fun x hx => ?_)
    · obtain ⟨j, hj, rfl⟩ := List.getElem_of_mem hx
      by_cases hjl : j ∈ l
      · exact gcdL_dvd _ _ (List.mem_map.2 ⟨j, hjl, by simp [List.getD_eq_getElem?_getD, hj]⟩)
      · have := evV_out (xs := xs) (n := n) hjl
        rw [List.getD_eq_getElem?_getD, List.getElem?_eq_getElem hj] at this
        have e : (evV xs l n)[j] = 0 := this
        rw [e]; exact Nat.dvd_zero _
    · obtain ⟨a, ha, rfl⟩ := List.mem_map.1 hx
      have hb : a < (evV xs l n).length := by rw [evV_len]; exact hm a ha
      rw [List.getD_eq_getElem?_getD, List.getElem?_eq_getElem hb]
      exact gcdL_dvd _ _ (List.getElem_mem hb)
  rw [hW]
  unfold krL
  refine ints_ext (by simp [lowL]) fun i hi => ?_
  simp only [lowL, List.length_map] at hi
  have hb : l[i] < (evV xs l n).length := by rw [evV_len]; exact hm _ (List.getElem_mem _)
  unfold lowL
  rw [hgc]
  simp [List.getD_eq_getElem?_getD, hi, hb]
end Go.Proofs.YthoodjjjklbggaaDoor

namespace Go.Proofs.YthoodjjjklbggaaDoor
open Go.RowKit Go.Sort
set_option maxRecDepth 100000
structure KSt (w : World) (base g m cap : Nat) (v : Value) (r : Nat) (us : List Value) (L : List (List Int)) : Prop where
  ul : us.length = m
  ll : L.length = m
  out : w.ownsRow base 23 1 (.slice (some ⟨g, 0, none⟩) m cap) m us
  row : ∀ k, k < m → Own w base (us.getD k (.slice none 0 0)) (L.getD k [])
  cols : Own w base v (nI (List.range r))
  part : ∀ k, k < m → v.ownBlock = none ∨ v.ownBlock ≠ (us.getD k (.slice none 0 0)).ownBlock
theorem KSt.below {w w' : World} {base g m cap : Nat} {v : Value} {r : Nat} {us : List Value} {L : List (List Int)} (h : KSt w base g m cap v r us L) (hb : Below w.heap.size w w') : KSt w' base g m cap v r us L :=
  ⟨h.ul, h.ll, ownsRow_below h.out hb, fun k hk => (h.row k hk).below hb, h.cols.below hb, h.part⟩
theorem KSt.lt {w : World} {base g m cap : Nat} {v : Value} {r : Nat} {us : List Value} {L : List (List Int)} (h : KSt w base g m cap v r us L) : base ≤ g ∧ g < w.heap.size := World.ownsRow.lt h.out g rfl
theorem KSt.cell {w : World} {base g m cap : Nat} {v : Value} {r : Nat} {us : List Value} {L : List (List Int)} (h : KSt w base g m cap v r us L) {k : Nat} (hk : k < m) :
    w.cell? ⟨g, k, none⟩ = some (us.getD k (.slice none 0 0)) ∧ w.frozen? ⟨g, k, none⟩ = false := by
  have h1 := World.ownsRow.cells h.out (g := g) rfl k (us.getD k (.slice none 0 0)) (by simp [show k < us.length by rw [h.ul]; exact hk])
  rw [Addr.add_lit, Nat.zero_add] at h1
  exact ⟨h1, World.ownsRow.frozenAt h.out k⟩
theorem KSt.rowAt {w : World} {base g m cap : Nat} {v : Value} {r : Nat} {us : List Value} {L : List (List Int)} (h : KSt w base g m cap v r us L) (hN : rowsN L m) {k : Nat} (hk : k < m) :
    ∃ b d, us.getD k (.slice none 0 0) = .slice (some ⟨b, 0, none⟩) m d ∧ w.cell? ⟨g, k, none⟩ = some (.slice (some ⟨b, 0, none⟩) m d) ∧ b < w.heap.size ∧ m ≤ d ∧ d ≤ 9223372036854775807 ∧ (∀ i, i < m → w.cell? ⟨b, i, none⟩ = some (.int .i64 (mE L k i))) ∧ Own w base (.slice (some ⟨b, 0, none⟩) m d) (L.getD k []) := by
  have ho := h.row k hk
  have hc := (h.cell hk).1
  obtain ⟨b, d, e, -, h2, h3, h4, -⟩ := ho.at_ (hN.2 k hk) (by omega)
  rw [e] at ho hc
  have hlt := (ho.lt b rfl).2
  unfold maxLen at h2
  exact ⟨b, d, e, hc, hlt, h3, by omega, h4, ho⟩
theorem KSt.keep {w : World} {base g m cap : Nat} {v : Value} {r : Nat} {us : List Value} {L : List (List Int)} (h : KSt w base g m cap v r us L) {u : Value} {ys : List Int} {b : Nat} (ho : Own w b u ys) (i : Nat) (x : Value) : Own (w.setCell ⟨g, i, none⟩ x) b u ys :=
  ho.kept (World.ownsRow.stored h.out i x).2 (by
    have := types_part ho h.out (by decide)
    simpa [Value.ownBlock] using this)
theorem KSt.set {w : World} {base g m cap : Nat} {v : Value} {r : Nat} {us : List Value} {L : List (List Int)} (h : KSt w base g m cap v r us L) {i : Nat} {u' : Value} {ys : List Int} (ho : Own w base u' ys)
    (hp : v.ownBlock = none ∨ v.ownBlock ≠ u'.ownBlock) : KSt (w.setCell ⟨g, i, none⟩ u') base g m cap v r (us.set i u') (L.set i ys) := by
  have hst := World.ownsRow.stored h.out i u'
  refine ⟨by rw [List.length_set]; exact h.ul, by rw [List.length_set]; exact h.ll, hst.1, fun k hk => ?_, h.keep h.cols i u', fun k hk => ?_⟩
  · by_cases e : i = k
    · subst e
      rw [show (us.set i u').getD i (.slice none 0 0) = u' by simp [List.getD_eq_getElem?_getD, show i < us.length by rw [h.ul]; exact hk], show (L.set i ys).getD i [] = ys by simp [List.getD_eq_getElem?_getD, show i < L.length by rw [h.ll]; exact hk]]
      exact h.keep ho i u'
    · rw [show (us.set i u').getD k (.slice none 0 0) = us.getD k (.slice none 0 0) by simp [List.getD_eq_getElem?_getD, List.getElem?_set_ne e], show (L.set i ys).getD k [] = L.getD k [] by simp [List.getD_eq_getElem?_getD, List.getElem?_set_ne e]]
      exact h.keep (h.row k hk) i u'
  · by_cases e : i = k
    · subst e
      rw [show (us.set i u').getD i (.slice none 0 0) = u' by simp [List.getD_eq_getElem?_getD, show i < us.length by rw [h.ul]; exact hk]]
      exact hp
    · rw [show (us.set i u').getD k (.slice none 0 0) = us.getD k (.slice none 0 0) by simp [List.getD_eq_getElem?_getD, List.getElem?_set_ne e]]
      exact h.part k hk
theorem KSt.swap {w : World} {base g m cap : Nat} {v : Value} {r : Nat} {us : List Value} {L : List (List Int)} (h : KSt w base g m cap v r us L) {c q : Nat} (hc : c < m) (hq : q < m) {uc uq : Value} (ec : us.getD c (.slice none 0 0) = uc) (eq : us.getD q (.slice none 0 0) = uq) :
    KSt ((w.setCell ⟨g, q, none⟩ uc).setCell ⟨g, c, none⟩ uq) base g m cap v r ((us.set q uc).set c uq) (swR L c q) := by
  subst ec eq
  have h1 := h.set (i := q) (h.row c hc) (h.part c hc)
  have h2 := h1.set (i := c) (h.keep (h.row q hq) q (us.getD c (.slice none 0 0))) (h.part q hq)
  exact h2
theorem KSt.app {w w' : World} {base g m cap : Nat} {v v' : Value} {r : Nat} {us : List Value} {L : List (List Int)} (h : KSt w base g m cap v r us L) (hg : w.grownBy w' v.ownBlock) (ho : Own w' base v' (nI (List.range (r + 1))))
    (hv : v'.ownBlock = v.ownBlock ∨ ∃ k, v'.ownBlock = some k ∧ w.heap.size ≤ k) : KSt w' base g m cap v' (r + 1) us L := by
  refine ⟨h.ul, h.ll, World.ownsRow.kept h.out hg (apart_symm' (types_part h.cols h.out (by decide))), fun k hk => (h.row k hk).kept hg (apart_symm' (h.part k hk)), ho, fun k hk => ?_⟩
  rcases hv with e | ⟨z, e, hz⟩
  · rw [e]; exact h.part k hk
  · right
    rw [e]
    intro e2
    have := ((h.row k hk).lt z e2.symm).2
    omega
theorem KSt.start {w : World} {base m : Nat} {v0 : Value} {L : List (List Int)} (h : OwnRows w base v0 L) (hl : L.length = m) (hm : 0 < m) (hb : base ≤ w.heap.size) :
    ∃ g cap us, v0 = .slice (some ⟨g, 0, none⟩) m cap ∧ m ≤ cap ∧ cap ≤ 9223372036854775807 ∧ KSt (w.alloc (.cells #[] 3)) base g m cap (.slice (some ⟨w.heap.size, 0, none⟩) 0 0) 0 us L := by
  subst hl
  obtain ⟨us, hu, ho, hr, hd⟩ := h
  have hb1 := below_alloc1 w (.cells #[] 3)
  rcases ho.2 with ⟨rfl, e⟩ | ⟨g, cap, cur, rfl, h1, h2, h3, h4, _⟩
  · omega
  · unfold maxLen at h4
    refine ⟨g, cap, us, rfl, h3, by omega, hu, rfl, ownsRow_below ho hb1, fun k hk => (hr k hk).below hb1, ?_, fun k hk => ?_⟩
    · have := Own.lit w base [] hb (by simp)
      simpa [nI] using this
    · right
      intro e
      have := ((hr k hk).lt w.heap.size e.symm).2
      omega
/-- the columns' list, as it is read -/
theorem KSt.col {w : World} {base g m cap : Nat} {v : Value} {r : Nat} {us : List Value} {L : List (List Int)} (h : KSt w base g m cap v r us L) : ∃ A d, v = .slice A r d ∧ r ≤ d ∧ d ≤ 9223372036854775807 ∧ (0 < r → ∃ b, A = some ⟨b, 0, none⟩ ∧ b < w.heap.size ∧ ∀ k, k < r → w.cell? ⟨b, k, none⟩ = some (.int .i64 (k : Nat))) := by
  have hlen : (nI (List.range r)).length = r := by rw [nI_len, List.length_range]
  have ho := h.cols
  obtain ⟨A, d, e, h2, h3, -⟩ := ho.form
  rw [hlen] at e h3
  unfold maxLen at h2
  refine ⟨A, d, e, h3, by omega, fun h0 => ?_⟩
  obtain ⟨b, c, e2, -, -, -, h4, -⟩ := ho.at_ hlen h0
  have hlt := (ho.lt b (by rw [e2]; rfl)).2
  rw [e] at e2
  injection e2 with e2 _ _
  refine ⟨b, e2, hlt, fun k hk => ?_⟩
  have := h4 k hk
  rw [nI_getD (by simpa using hk)] at this
  simpa [List.getD_eq_getElem?_getD, hk] using this
end Go.Proofs.YthoodjjjklbggaaDoor

namespace Go.Proofs.YthoodjjjklbggaaDoor
open Go.RowKit Go.Sort
set_option maxRecDepth 100000
def tbK (xs : List Int) (l : List Nat) (k : Nat) : List (List Int) := (l.take k).map fun b => l.map fun a => sg xs a b
def rwK (xs : List Int) (l : List Nat) (b j : Nat) : List Int := (l.take j).map fun a => sg xs a b
theorem take_one (l : List Nat) {k : Nat} (hk : k < l.length) : l.take (k + 1) = l.take k ++ [l.getD k 0] := by
  rw [List.take_succ_eq_append_getElem hk, getD_nat hk]
theorem rwK_succ (xs : List Int) (l : List Nat) (b : Nat) {j : Nat} (hj : j < l.length) : rwK xs l b (j + 1) = rwK xs l b j ++ [sg xs (l.getD j 0) b] := by
  unfold rwK
  rw [take_one l hj, List.map_append]; rfl
theorem rwK_len (xs : List Int) (l : List Nat) (b j : Nat) : (rwK xs l b j).length ≤ j := by
  unfold rwK
  rw [List.length_map]; exact List.length_take_le _ _
theorem tbK_succ (xs : List Int) (l : List Nat) {k : Nat} (hk : k < l.length) : tbK xs l (k + 1) = tbK xs l k ++ [rwK xs l (l.getD k 0) l.length] := by
  unfold tbK rwK
  rw [take_one l hk, List.map_append, List.take_length]; rfl
theorem tbK_len (xs : List Int) (l : List Nat) (k : Nat) : (tbK xs l k).length ≤ k := by
  unfold tbK
  rw [List.length_map]; exact List.length_take_le _ _
theorem tbK_all (xs : List Int) (l : List Nat) : tbK xs l l.length = tbL xs l := by
  unfold tbK tbL
  rw [List.take_length]
end Go.Proofs.YthoodjjjklbggaaDoor

namespace Go.Proofs.YthoodjjjklbggaaDoor
open Go.RowKit Go.Sort
set_option maxRecDepth 100000
set_option maxHeartbeats 4000000 in
theorem evenOn_even (n : Nat) (sl : Value) (xs : List Int) (_hp : tourP n xs) (l : List Nat) (v : Value) (w : World) (h7 : l.length ≤ 7) (h : Rd w sl xs) (hv : Rd w v (nI l)) (hev : l.length % 2 = 0) :
    Calls Tryd.prog 28 #[.agg #[.int .i64 n, sl], v] w fun e w' => e = .returned (.slice none 0 0) ∧ Below w.heap.size w w' := by
  obtain ⟨A, c, rfl, -, hcm, -⟩ := h
  obtain ⟨B, d, rfl, hd1, hd2, -⟩ := hv
  unfold maxLen at hd2
  rw [nI_len] at hd1 ⊢
  obtain ⟨m, hmm⟩ : ∃ m, m = l.length := ⟨_, rfl⟩
  rw [← hmm] at hd1 hev h7 ⊢
  clear hmm
  have er : Int.tmod (m : Int) 2 = 0 := by rw [Int.tmod_eq_emod_of_nonneg (by omega)]; omega
  have er2 : (m : Int) % 2 = 0 := by omega
  go_enter Tryd.func28, Tryd.ntmps28
  have b0 := below_alloc1 w (.cells #[.int .i64 n, .slice A xs.length c] 25)
  have HB0 := Lib.hid b0
  clear b0
  go_wp2
  go_ret
  exact ⟨rfl, HB0.out⟩
end Go.Proofs.YthoodjjjklbggaaDoor

namespace Go.Proofs.YthoodjjjklbggaaDoor
open Go.RowKit Go.Sort
set_option maxRecDepth 100000
/-- the weights of a set -/
def sfV (xs : List Int) (n S : Nat) : List Int := lowL (evV xs (memN S n) n)
/-- a set's weights exist and are safe -/
noncomputable def sfG (xs : List Int) (n S : Nat) : Bool := decide ((memN S n).length % 2 = 1) && evG xs (memN S n) n && safeB n xs (sfV xs n S)
theorem evenOn_all (n : Nat) (sl : Value) (xs : List Int) (hp : tourP n xs) (l : List Nat) (v : Value) (w : World) (h7 : l.length ≤ 7) (hnd : l.Nodup) (hm : ∀ x ∈ l, x < n) (h : Rd w sl xs) (hv : Rd w v (nI l)) :
    Calls Tryd.prog 28 #[.agg #[.int .i64 n, sl], v] w fun e w' => ∃ v', e = .returned v' ∧ ((decide (l.length % 2 = 1) && evG xs l n) = true → Own w' w.heap.size v' (lowL (evV xs l n)) ∧ v' ≠ .slice none 0 0) ∧ ((decide (l.length % 2 = 1) && evG xs l n) = false → v' = .slice none 0 0) ∧ Below w.heap.size w w' := by
  rcases Nat.mod_two_eq_zero_or_one l.length with e | e
  · refine (evenOn_even n sl xs hp l v w h7 h hv e).mono ?_
    rintro r w' ⟨rfl, hb⟩
    exact ⟨_, rfl, fun h => absurd h (by rw [e]; simp), fun _ => rfl, hb⟩
  · refine (evenOn_any n sl xs hp l v w h7 (by omega) hnd hm h hv e).mono ?_
    rintro r w' ⟨v', rfl, h1, h2, hb⟩
    exact ⟨_, rfl, fun h => h1 (by rw [e] at h; simpa using h), fun h => h2 (by rw [e] at h; simpa using h), hb⟩
set_option maxHeartbeats 4000000 in
theorem implSafeS (n : Nat) (sl : Value) (xs : List Int) (hp : tourP n xs) (h7 : n ≤ 7) (w : World) (h : Rd w sl xs) :
    Calls Tryd.prog 5 #[.agg #[.int .i64 n, sl]] w fun e w' => ∃ v' b, e = .returned (.tuple #[v', .bool b]) ∧ (∀ S, 1 ≤ S → S < 2 ^ n → sfG xs n S = true → (∀ T, 1 ≤ T → T < S → sfG xs n T = false) → b = true ∧ Own w' w.heap.size v' (sfV xs n S)) ∧ ((∀ S, 1 ≤ S → S < 2 ^ n → sfG xs n S = false) → b = false ∧ v' = .slice none 0 0) ∧ Below w.heap.size w w' := by
  have HR := Lib.hid h
  have HP := Lib.hid hp
  have q0 : tourB n xs = true := tourB_true.2 hp
  have hln := tour_len hp
  have h1n : 1 ≤ n := by have := hp.1; omega
  have h256 : 2 ^ n ≤ 128 := Nat.pow_le_pow_right (n := 2) (j := 7) (by decide) h7
  have hsh := shl_nat n (by omega)
  obtain ⟨Q, hQ⟩ : ∃ Q, Q = 2 ^ n := ⟨_, rfl⟩
  have HQ := Lib.hid hQ
  have hQ1 : 1 ≤ Q := by rw [hQ]; exact Nat.one_le_two_pow
  rw [← hQ] at h256 hsh ⊢
  obtain ⟨A, c, rfl, -, hcm, -⟩ := h
  unfold maxLen at hcm
  rw [hln] at HR ⊢
  clear hp hln hQ
  go_enter Tryd.func5, Tryd.ntmps5
  go_wp2_with fail
  have b0 := below_alloc1 w (.cells #[.int .i64 n, .slice A n c] 25)
  have x0 := TBox.new w n (.slice A n c) 25
  generalize w.alloc (.cells #[.int .i64 n, .slice A n c] 25) = w0 at *
  have HX0 := Lib.hid x0
  have HB0 := Lib.hid b0
  clear x0 b0
  have y0_0 := HX0.out.1
  have y1_0 := HX0.out.2
  go_wp2_with fail
  refine (implTourOk n _ xs _ (HR.out.below HB0.out)).mono ?_
  rintro e w1 ⟨rfl, hb⟩
  have HX1 := Lib.hid (HX0.out.below hb)
  have HB1 := Lib.hid (Below.then HB0.out hb)
  clear hb HX0 HB0 y0_0 y1_0
  have y0_1 := HX1.out.1
  have y1_1 := HX1.out.2
  rw [q0]
  have HSH := Lib.hid hsh
  clear hsh
  go_wp2
  go_loopw [4] (fun t4 wr => ∃ (k : Nat), k + 1 ≤ Q ∧ t4 = .int .i64 ((k + 1 : Nat) : Int) ∧ Hid (∀ T, 1 ≤ T → T ≤ k → sfG xs n T = false) ∧ Hid (TBox wr w.heap.size n (.slice A n c)) ∧ Hid (Below w.heap.size w wr)) (fun t4 _ => Q - (intOf t4).toNat)
  case atStart => exact ⟨0, by omega, rfl, Lib.hid (fun T h1 h2 => by omega), HX1, HB1⟩
  case round =>
    obtain ⟨k, hk, rfl, HF, HX, HB⟩ := hrel
    clear HX1 HB1 y0_1 y1_1
    have y0 := HX.out.1
    have y1 := HX.out.2
    have hsh := HSH.out
    by_cases hlt : k + 1 < Q
    · have hlti : ((k + 1 : Nat) : Int) < (Q : Int) := by omega
      have hMeas : Q - (k + 1 + 1) < Q - (k + 1) := by omega
      have hk2 : k + 1 + 1 ≤ Q := hlt
      have HS2 : Hid (k + 1 < 2 ^ n) := Lib.hid (by rw [← HQ.out]; exact hlt)
      have HST : Hid (sfG xs n (k + 1) = (decide ((memN (k + 1) n).length % 2 = 1) && evG xs (memN (k + 1) n) n && safeB n xs (lowL (evV xs (memN (k + 1) n) n)))) := Lib.hid rfl
      have HF : Hid (∀ T, 1 ≤ T → T < k + 1 → sfG xs n T = false) := Lib.hid fun T h1 h2 => HF.out T h1 (by omega)
      have HK1 : Hid (1 ≤ k + 1) := Lib.hid (by omega)
      have HNX : Hid (sfG xs n (k + 1) = false → ∀ T, 1 ≤ T → T ≤ k + 1 → sfG xs n T = false) := Lib.hid fun hz T h1 h2 => by
        rcases Nat.lt_or_ge T (k + 1) with h3 | h3
        · exact HF.out T h1 h3
        · obtain rfl : T = k + 1 := by omega
          exact hz
      generalize hKK : k + 1 = K at *
      go_wp2_with fail
      have HEV : Hid (∀ v3 w3, Rd w3 (.slice A n c) xs → Rd w3 v3 (nI (memN K n)) → Calls Tryd.prog 28 #[.agg #[.int .i64 n, .slice A n c], v3] w3 fun e w' => ∃ v', e = .returned v' ∧ ((decide ((memN K n).length % 2 = 1) && evG xs (memN K n) n) = true → Own w' w3.heap.size v' (lowL (evV xs (memN K n) n)) ∧ v' ≠ .slice none 0 0) ∧ ((decide ((memN K n).length % 2 = 1) && evG xs (memN K n) n) = false → v' = .slice none 0 0) ∧ Below w3.heap.size w3 w') := Lib.hid fun v3 w3 h1 h2 =>
        evenOn_all n (.slice A n c) xs HP.out (memN K n) v3 w3 (by have := memN_len K n; omega) (memN_nodup K n) (fun x hx => (mem_memN.1 hx).1) h1 h2
      clear hsh
      generalize (decide ((memN K n).length % 2 = 1) && evG xs (memN K n) n) = G at *
      have HVL : Hid ((lowL (evV xs (memN K n) n)).length = n) := Lib.hid (by unfold lowL; rw [List.length_map, evV_len])
      have HVE : Hid (sfV xs n K = lowL (evV xs (memN K n) n)) := Lib.hid rfl
      generalize lowL (evV xs (memN K n) n) = V at *
      have BD := Lib.hid (show Below w.heap.size w wr.drew from HB.out.drew)
      have HXd := Lib.hid (show TBox wr.drew w.heap.size n (.slice A n c) from HX.out)
      go_region_held3 (fun W => W.cell? ⟨w.heap.size, 0, none⟩ = some (.int .i64 n) ∧ W.cell? ⟨w.heap.size, 1, none⟩ = some (.slice A n c))
        (first | exact ⟨y0, y1⟩ | exact HXd.out | exact HX5.out | exact HX6.out)
        (first
          | (go_at_call 28; refine (HEV.out _ w5 (HR.out.below HB5.out) HO5.out.rd).mono ?_; rintro e w6 ⟨v6, rfl, h61, h62, hb6⟩; have HX6 := Lib.hid (HX5.out.below hb6); have HB6 := Lib.hid (Below.then HB5.out hb6); have H61 := Lib.hid h61; have H62 := Lib.hid h62; clear h61 h62 hb6)
          | (go_at_call 29; refine (membersOf_any K n wr.drew HS2.out (by omega)).mono ?_; rintro e w5 ⟨v5, rfl, ho5, hb5⟩; have HX5 := Lib.hid (HXd.out.below hb5); have HB5 := Lib.hid (Below.then BD.out hb5); have HO5 := Lib.hid ho5; clear ho5 hb5))
      rcases hG : G with _ | _
      · obtain rfl := H62.out hG
        have HFA : Hid (sfG xs n K = false) := Lib.hid (by rw [HST.out, hG]; rfl)
        clear HEV
        go_wp2
        go_roundw
        case rel => exact ⟨K, hk2, by go_num, Lib.hid (HNX.out HFA.out), HX6, HB6⟩
        case measure => simp [intOf]; omega
      · have ho6 := (H61.out hG).1
        have hn6 := (H61.out hG).2
        obtain ⟨g6, c6, rfl, -⟩ := ho6.at_ HVL.out h1n
        have HSB := Lib.hid (implIsSafe n (.slice A n c) xs _ V w6 (HR.out.below HB6.out) ho6.rd)
        have HO6 := Lib.hid ho6
        have HSZ := Lib.hid HB5.out.size
        have z60 := HX6.out.1
        have z61 := HX6.out.2
        rw [hG, Bool.true_and] at HST
        clear HEV HO5 HX5 ho6 hn6 H61 H62 HXd BD HX
        go_wp2_with fail
        refine HSB.out.mono ?_
        rintro e w7 ⟨rfl, hb7⟩
        have HX7 := Lib.hid (HX6.out.below hb7)
        have HB7 := Lib.hid (Below.then HB6.out hb7)
        have HO7 := Lib.hid (HO6.out.below hb7)
        clear hb7 HX6 HB6 HO6 HSB z60 z61
        rcases hs : safeB n xs V with _ | _
        · have HFA : Hid (sfG xs n K = false) := Lib.hid (by rw [HST.out, hs])
          go_wp2
          go_roundw
          case rel => exact ⟨K, hk2, by go_num, Lib.hid (HNX.out HFA.out), HX7, HB7⟩
          case measure => simp [intOf]; omega
        · have HTR : Hid (sfG xs n K = true) := Lib.hid (by rw [HST.out, hs])
          go_wp2
          go_ret2
          refine ⟨_, _, rfl, fun S h1 h2 h3 h4 => ⟨rfl, ?_⟩, fun h => ?_, HB7.out⟩
          · have e : S = K := by
              rcases Nat.lt_trichotomy S K with h5 | h5 | h5
              · rw [HF.out S h1 h5] at h3; exact absurd h3 (by decide)
              · exact h5
              · rw [h4 K HK1.out h5] at HTR; exact absurd HTR.out (by decide)
            rw [e, HVE.out]
            have ho := HO7.out.mono HSZ.out
            exact ho
          · rw [h K HK1.out hlt] at HTR; exact absurd HTR.out (by decide)
    · obtain rfl : k + 1 = Q := by omega
      have hsh := HSH.out
      go_wp2
      go_ret2
      refine ⟨_, _, rfl, fun S h1 h2 h3 _ => ?_, fun _ => ⟨rfl, rfl⟩, HB.out⟩
      rw [HF.out S h1 (by omega)] at h3
      exact absurd h3 (by decide)
end Go.Proofs.YthoodjjjklbggaaDoor

namespace Go.Proofs.YthoodjjjklbggaaDoor
set_option maxRecDepth 100000
theorem memN_wide {S n : Nat} (hS : S < 2 ^ n) : ∀ d, memN S (n + d) = memN S n := by
  intro d
  induction d with
  | zero => rfl
  | succ d ih =>
    have h1 : S < 2 ^ (n + d) := Nat.lt_of_lt_of_le hS (Nat.pow_le_pow_right (by decide) (by omega))
    have h2 : S.testBit (n + d) = false := Nat.testBit_lt_two_pow h1
    rw [← ih]
    unfold memN
    rw [show n + (d + 1) = n + d + 1 by omega, List.range_succ, List.filter_append]
    simp [h2]
theorem pop_memN {S n : Nat} (hS : S < 2 ^ n) (hn : n ≤ 8) : popN 8 S = (memN S n).length := by
  have h1 : S < 256 := Nat.lt_of_lt_of_le hS (Nat.pow_le_pow_right (n := 2) (j := 8) (by decide) hn)
  rw [pop_mem h1, ← memN_wide hS (8 - n), show n + (8 - n) = 8 by omega]
theorem evV_pos {n : Nat} {xs : List Int} {l : List Nat} (hp : tourP n xs) (hl : l.length % 2 = 1) (h7 : l.length ≤ 7) (hnd : l.Nodup) (hm : ∀ x ∈ l, x < n) (hG : evG xs l n = true) : (∀ a, a ∈ l → 0 < (evV xs l n).getD a 0) ∧ ∀ x ∈ evV xs l n, 0 ≤ x ∧ x ≤ 15 := by
  have h1 : ∀ a, a ∈ l → 0 < (evV xs l n).getD a 0 := fun a ha => by
    unfold evG at hG
    rw [List.all_eq_true] at hG
    simpa using hG a ha
  refine ⟨h1, fun x hx => ?_⟩
  obtain ⟨j, hj, rfl⟩ := List.getElem_of_mem hx
  have hb := evV_bd (evK_bd hp hl h7 hnd hm l.length (Nat.le_refl _)) j
  have e : (evV xs l n).getD j 0 = (evV xs l n)[j] := by simp [hj]
  rw [e] at hb
  by_cases hjl : j ∈ l
  · have := h1 j hjl
    rw [e] at this
    omega
  · have := evV_out (xs := xs) (n := n) hjl
    rw [e] at this
    omega
/-- the lowest weights -/
theorem low_pos {n : Nat} {xs : List Int} {l : List Nat} (hp : tourP n xs) (hl : l.length % 2 = 1) (h7 : l.length ≤ 7) (hnd : l.Nodup) (hm : ∀ x ∈ l, x < n) (hG : evG xs l n = true) :
    (lowL (evV xs l n)).length = n ∧ (∀ a, a ∈ l → 0 < (lowL (evV xs l n)).getD a 0) ∧ (∀ a, a ∉ l → (lowL (evV xs l n)).getD a 0 = 0) ∧ ∀ x ∈ lowL (evV xs l n), 0 ≤ x ∧ x ≤ 15 := by
  obtain ⟨h1, h2⟩ := evV_pos hp hl h7 hnd hm hG
  have hlen : (lowL (evV xs l n)).length = n := by unfold lowL; rw [List.length_map, evV_len]
  have hat : ∀ a, a < n → (lowL (evV xs l n)).getD a 0 = (evV xs l n).getD a 0 / (gcdL (evV xs l n) : Int) := fun a ha => by
    have : a < (evV xs l n).length := by rw [evV_len]; exact ha
    unfold lowL
    simp [List.getD_eq_getElem?_getD, this]
  refine ⟨hlen, fun a ha => ?_, fun a ha => ?_, fun x hx => ?_⟩
  · have hb : a < (evV xs l n).length := by rw [evV_len]; exact hm a ha
    have h3 := h1 a ha
    rw [hat a (hm a ha)]
    have e : (evV xs l n).getD a 0 = (evV xs l n)[a] := by simp [hb]
    have hd := gcdL_dvd (evV xs l n) _ (List.getElem_mem hb)
    rw [← e] at hd
    generalize (evV xs l n).getD a 0 = x at *
    generalize gcdL (evV xs l n) = g at *
    obtain ⟨q, hq⟩ := hd
    have hg : 0 < g := Nat.pos_of_ne_zero fun h => by subst h; simp at hq; omega
    have hq0 : 0 < q := Nat.pos_of_ne_zero fun h => by subst h; simp at hq; omega
    have hx : x = (g : Int) * (q : Int) := by rw [← Int.natCast_mul, ← hq]; omega
    rw [hx, Int.mul_ediv_cancel_left _ (by omega)]
    omega
  · by_cases hn : a < n
    · rw [hat a hn, evV_out ha]; exact Int.zero_ediv _
    · rw [List.getD_eq_getElem?_getD, List.getElem?_eq_none (by omega)]; rfl
  · unfold lowL at hx
    obtain ⟨y, hy, rfl⟩ := List.mem_map.1 hx
    obtain ⟨h3, h4⟩ := h2 y hy
    generalize gcdL (evV xs l n) = g
    refine ⟨Int.ediv_nonneg h3 (by omega), ?_⟩
    have := Int.ediv_le_self (b := (g : Int)) h3
    omega
theorem low_strat {n : Nat} {xs : List Int} {l : List Nat} (hp : tourP n xs) (hl : l.length % 2 = 1) (h7 : l.length ≤ 7) (hnd : l.Nodup) (hm : ∀ x ∈ l, x < n) (hG : evG xs l n = true) : stratB n xs (lowL (evV xs l n)) = true := by
  obtain ⟨h1, h2, h3, h4⟩ := low_pos hp hl h7 hnd hm hG
  refine stratB_true.2 ⟨hp, by rw [h1], fun x hx => by have := h4 x hx; omega, (sum_pos fun x hx => (h4 x hx).1).2.2 ?_⟩
  have h0 : 0 < l.length := by omega
  have ha := h2 (l.getD 0 0) (by rw [getD_nat h0]; exact List.getElem_mem _)
  have hb : l.getD 0 0 < (lowL (evV xs l n)).length := by rw [h1]; exact hm _ (by rw [getD_nat h0]; exact List.getElem_mem _)
  refine ⟨(lowL (evV xs l n))[l.getD 0 0], List.getElem_mem hb, fun e => ?_⟩
  rw [List.getD_eq_getElem?_getD (l := lowL _), List.getElem?_eq_getElem hb] at ha
  have : 0 < (lowL (evV xs l n))[l.getD 0 0] := ha
  omega
/-- weights that are laid at their players, the first k of the list -/
def spK (V : List Int) (l : List Nat) (n : Nat) : Nat → List Int
  | 0 => List.replicate n 0
  | k + 1 => (spK V l n k).set (l.getD k 0) (V.getD (l.getD k 0) 0)
theorem spK_len (V : List Int) (l : List Nat) (n k : Nat) : (spK V l n k).length = n := by
  induction k with
  | zero => simp [spK]
  | succ k ih => simp [spK, ih]
theorem spK_at {V : List Int} {l : List Nat} {n : Nat} {a : Nat} (ha : a < n) : ∀ k, k ≤ l.length → (spK V l n k).getD a 0 = if a ∈ l.take k then V.getD a 0 else 0 := by
  intro k
  induction k with
  | zero => intro _; simp [spK, ha]
  | succ k ih =>
    intro hk
    simp only [spK]
    rw [List.getD_eq_getElem?_getD, List.getElem?_set]
    have e : l.take (k + 1) = l.take k ++ [l.getD k 0] := by rw [List.take_succ_eq_append_getElem (by omega), getD_nat (by omega)]
    rw [e]
    by_cases q : l.getD k 0 = a
    · rw [if_pos q, q, if_pos (by rw [spK_len]; exact ha), if_pos (by simp)]; rfl
    · rw [if_neg q, ← List.getD_eq_getElem?_getD, ih (by omega)]
      by_cases h : a ∈ l.take k
      · rw [if_pos h, if_pos (by simp [h])]
      · rw [if_neg h, if_neg (by simp only [List.mem_append, List.mem_singleton]; rintro (h1 | h1); exact h h1; exact q h1.symm)]
theorem spK_all {V : List Int} {l : List Nat} {n : Nat} (hl : V.length = n) (h0 : ∀ a, a ∉ l → V.getD a 0 = 0) : spK V l n l.length = V := ints_ext (by rw [spK_len, hl]) fun a ha => by
  rw [spK_len] at ha
  rw [spK_at ha l.length (Nat.le_refl _), List.take_length]
  split
  · rfl
  · rename_i h; exact (h0 a h).symm
end Go.Proofs.YthoodjjjklbggaaDoor

namespace Go.Proofs.YthoodjjjklbggaaDoor
open Go.RowKit Go.Sort
set_option maxRecDepth 100000
end Go.Proofs.YthoodjjjklbggaaDoor

