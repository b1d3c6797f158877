/- Texts put together: TgZ, OrR. -/
import Derived.Test.YthoodjjjklbggaaGreatDoorMTriangles26
import Derived.Test.YthoodjjjklbggaaGreatDoorMTriangles15
import Derived.Test.YthoodjjjklbggaaGreatDoorMTriangles23
namespace Go.Proofs.YthoodjjjklbggaaGreatDoor
open Go.RowKit Go.Sort
set_option maxRecDepth 100000
variable {n : Nat} {xs : List Int} {w : World}
/-- a slice's length, as a measure -/
def lenV : Value → Nat | .slice _ n _ => n | _ => 0
set_option maxHeartbeats 8000000 in
theorem cRealize (hp : tourP n xs) (h5 : n ≤ 5) {v : Value} (h : Rd w v (scL xs n)) :
    Calls Tryz.prog 20 #[v] w fun e w' => ∃ Y cy, e = .returned (.tuple #[.agg #[.int .i64 n, .slice Y n cy], .bool true]) ∧ Own w' w.heap.size (.slice Y n cy) (nI (rzW (scL xs n) n)) ∧ Below w.heap.size w w' := by
  have h1 : 1 ≤ n := by have := hp.1; omega
  obtain ⟨i0, hi, hz0, hz1, hz2⟩ := info_parts i64_info
  have hlan := (rz_law hp h5).2.2
  rw [← srt_eq] at hlan
  have hsl : (scL xs n).length = n := scL_len _ _
  have hsb : ∀ i, 0 ≤ (scL xs n).getD i 0 ∧ (scL xs n).getD i 0 ≤ 8 := fun i => by
    by_cases hi : i < n
    · rw [scL_at xs hi]; exact scN_bd xs i
    · rw [List.getD_eq_getElem?_getD, List.getElem?_eq_none (by omega)]; simp
  have htl : (srtL (scL xs n)).length = n := by rw [(srtL_perm _).length_eq, hsl]
  have htb : ∀ i, 0 ≤ (srtL (scL xs n)).getD i 0 ∧ (srtL (scL xs n)).getD i 0 ≤ 8 := fun i => by
    by_cases hi : i < n
    · rw [List.getD_eq_getElem?_getD, List.getElem?_eq_getElem (by omega)]
      have hm := (srtL_perm (scL xs n)).mem_iff.1 (List.getElem_mem (show i < (srtL (scL xs n)).length by omega))
      obtain ⟨j, hj, e⟩ := List.getElem_of_mem hm
      have := hsb j
      rw [List.getD_eq_getElem?_getD, List.getElem?_eq_getElem hj, e] at this
      exact this
    · rw [List.getD_eq_getElem?_getD, List.getElem?_eq_none (by omega)]; simp
  have hts : ∀ i, i + 1 < (srtL (scL xs n)).length → (srtL (scL xs n)).getD i 0 ≤ (srtL (scL xs n)).getD (i + 1) 0 := fun i hi => by
    have := List.pairwise_iff_getElem.1 (srtL_sorted (scL xs n)) i (i + 1) (by omega) hi (by omega)
    rw [List.getD_eq_getElem?_getD, List.getD_eq_getElem?_getD, List.getElem?_eq_getElem hi, List.getElem?_eq_getElem (show i < _ by omega)]
    exact this
  have HLAN := Lib.hid hlan
  have HSL := Lib.hid hsl
  have HSB := Lib.hid hsb
  have HTL := Lib.hid htl
  have HTB := Lib.hid htb
  have HTS := Lib.hid hts
  clear hlan hsl hsb htl htb hts hp
  generalize scL xs n = S0 at *
  have HR := Lib.hid h
  obtain ⟨A, c, rfl, -, hcm, -⟩ := h
  unfold maxLen at hcm
  rw [HSL.out] at HR ⊢
  have HT0 := Lib.hid (BoxF.new w 0 (.slice none 0 0) 25)
  have HB0 := Lib.hid (below_alloc1 w (.cells #[.int .i64 0, .slice none 0 0] 25))
  have hz0s : (w.alloc (.cells #[.int .i64 0, .slice none 0 0] 25)).heap.size = w.heap.size + 1 := by simp
  have HZ0 := Lib.hid hz0s
  clear hz0s
  go_enter Tryz.func20, Tryz.ntmps20
  go_wp2_with fail
  generalize w.alloc (.cells #[.int .i64 0, .slice none 0 0] 25) = w0 at *
  refine (clone_any _ S0 w0 (HR.out.below HB0.out) (by rw [HSL.out]; omega) (by rw [HSL.out]; omega)).mono ?_
  rintro e w1 ⟨v1, rfl, ho1, hb1⟩
  obtain ⟨A1, c1, rfl, hc1m, -, hA1⟩ := ho1.form
  obtain ⟨g1, rfl, -, -⟩ := hA1 (by rw [HSL.out]; omega)
  rw [HSL.out] at ho1 ⊢
  have HO1 := Lib.hid ho1
  have HB1 := Lib.hid hb1
  clear ho1 hb1 hA1
  go_wp2_with fail
  refine (sort_own w0.heap.size g1 n c1 S0 w1 HO1.out HSL.out h1 (by omega)).mono ?_
  rintro e w2 ⟨rfl, hr2, hbs⟩
  have hb2 : Below w0.heap.size w0 w2 := hbs _ _ (Nat.le_refl _) HB1.out
  have HR2 := Lib.hid hr2
  have HB2 := Lib.hid hb2
  clear hr2 hbs hb2 HO1 HB1
  go_wp2_with fail
  refine (landau_yes _ (srtL S0) w2 HR2.out (by rw [HTL.out]; exact h1) (by rw [HTL.out]; omega) HTB.out HTS.out (by rw [HTL.out]; exact HLAN.out)).mono ?_
  rintro e w3 ⟨rfl, hb3⟩
  have hb03 : Below w0.heap.size w0 w3 := HB2.out.trans (hb3.mono HB2.out.size)
  have HT3 := Lib.hid (HT0.out.below hb03)
  have HB3 := Lib.hid (Below.then HB0.out hb03)
  have hz3 : w.heap.size + 1 ≤ w3.heap.size := by have := hb03.size; rw [HZ0.out] at this; exact this
  clear hb3 hb03 HT0 HB0 HB2 HR2 HTS HTB HTL HLAN HZ0
  go_wp2_with (at_make; refine wpList_make_full _ rfl _ _ 23 rfl w3.heap.size 3 i0 (.int .i64 0) 1 Tryz.underlying23 hi hz0 hz1 _ _ _ _ n rfl rfl rfl rfl (by rw [hz2]; omega) (by unfold maxLen; omega) (Nat.le_refl _) ?_; intro w4 hown hg1; have hb4 : Below w3.heap.size w3 w4 := (Below.refl _ _).grown hg1 (Nat.le_refl _) (by simp); have HT4 := Lib.hid (HT3.out.below hb4); have HB4 := Lib.hid (Below.then HB3.out hb4); have HOWN := Lib.hid hown; clear hown hg1 hb4)
  have hgl := (World.ownsRow.lt HOWN.out w3.heap.size rfl).2
  have bU := below_alloc1 w4 (.cells #[.int .i64 n, .slice (some ⟨w3.heap.size, 0, none⟩) n n] 25)
  have HU5 := Lib.hid (BoxF.new w4 n (.slice (some ⟨w3.heap.size, 0, none⟩) n n) 25)
  have HT5 := Lib.hid (HT4.out.below bU)
  have HB5 := Lib.hid (Below.then HB4.out bU)
  have HO5 : Hid (Own (w4.alloc (.cells #[.int .i64 n, .slice (some ⟨w3.heap.size, 0, none⟩) n n] 25)) w.heap.size (.slice (some ⟨w3.heap.size, 0, none⟩) n n) (nI (List.replicate n 0))) := by
    have ho := HOWN.out
    rw [ints_made'] at ho
    refine Own.mono (b := w3.heap.size) ?_ (by omega)
    refine Own.below (w := w4) ?_ bU
    unfold Own
    rw [show nI (List.replicate n 0) = List.replicate n 0 by simp [nI], List.length_replicate]
    exact ho
  have hz5 : (w4.alloc (.cells #[.int .i64 n, .slice (some ⟨w3.heap.size, 0, none⟩) n n] 25)).heap.size = w4.heap.size + 1 := by simp
  generalize w4.alloc (.cells #[.int .i64 n, .slice (some ⟨w3.heap.size, 0, none⟩) n n] 25) = w5 at *
  generalize hgu : w4.heap.size = gu at *
  generalize hgl' : w3.heap.size = gl at *
  have hwl : w.heap.size < gl := by omega
  have HZ5 := Lib.hid hz5
  clear bU HOWN HT3 HB3 HT4 HB4 hgu hgl' hz5 hz3
  refine (clone_any _ S0 w5 (HR.out.below HB5.out) (by rw [HSL.out]; omega) (by rw [HSL.out]; omega)).mono ?_
  rintro e w6 ⟨v2, rfl, ho6, hb6⟩
  obtain ⟨A2, cc, rfl, hccm, hncc, hA2⟩ := ho6.form
  obtain ⟨gc, rfl, hgc1, hgc2⟩ := hA2 (by rw [HSL.out]; omega)
  rw [HSL.out] at ho6 hncc ⊢
  have hgc3 : gu < gc := by have := HZ5.out; omega
  have HC6 := Lib.hid (ho6.mono (b' := w.heap.size) HB5.out.size)
  have HT6 := Lib.hid (HT5.out.below hb6)
  have HU6 := Lib.hid (HU5.out.below hb6)
  have HO6 := Lib.hid (HO5.out.below hb6)
  have HB6 := Lib.hid (Below.then HB5.out hb6)
  clear ho6 hb6 hA2 hgc1 HT5 HU5 HO5 HB5 HZ5
  go_wp2_with fail
  refine (indices_any n (by omega) w6 h1).mono ?_
  rintro e w7 ⟨rfl, ho7, hb7⟩
  have hgp7 := ho7.lt w6.heap.size rfl
  have HP7 := Lib.hid (ho7.mono (b' := w.heap.size) HB6.out.size)
  have HC7 := Lib.hid (HC6.out.below hb7)
  have HT7 := Lib.hid (HT6.out.below hb7)
  have HU7 := Lib.hid (HU6.out.below hb7)
  have HO7 := Lib.hid (HO6.out.below hb7)
  have HB7 := Lib.hid (Below.then HB6.out hb7)
  generalize hgp : w6.heap.size = gp at *
  clear ho7 hb7 HC6 HT6 HU6 HO6 HB6 hgp
  have bs := below_alloc1 w7 (.cells #[.slice (some ⟨gc, 0, none⟩) n cc] 23)
  have zs : (w7.alloc (.cells #[.slice (some ⟨gc, 0, none⟩) n cc] 23)).cell? ⟨w7.heap.size, 0, none⟩ = some (.slice (some ⟨gc, 0, none⟩) n cc) := by simp
  have HS8 : Hid (RzS w (w7.alloc (.cells #[.slice (some ⟨gc, 0, none⟩) n cc] 23)) gl gu gc w7.heap.size n cc (List.replicate n 0) S0) :=
    Lib.hid ⟨HO7.out.below bs, HU7.out.below bs, HC7.out.below bs, zs, HT7.out.below bs, Below.then HB7.out bs⟩
  have HW8 : Hid (Win (w7.alloc (.cells #[.slice (some ⟨gc, 0, none⟩) n cc] 23)) w.heap.size gp 0 n (nI (List.range n))) := Lib.hid (Win.below (Win.own HP7.out (idxL_len n) (by omega)) bs)
  go_wp2
  generalize w7.alloc (.cells #[.slice (some ⟨gc, 0, none⟩) n cc] 23) = w8 at *
  generalize hsb : w7.heap.size = sb at *
  clear bs zs HO7 HU7 HC7 HT7 HB7 HP7 hsb
  go_loopw [7] (fun t7 wr => ∃ (m off : Nat) (P N : List Nat) (S : List Int), m ≤ n ∧ off + m ≤ n ∧ t7 = .slice (some ⟨gp, off, none⟩) m m ∧ Hid (P.length = m) ∧ Hid (∀ x ∈ P, x < n) ∧ Hid (N.length = n ∧ ∀ i, N.getD i 0 < 2 ^ n) ∧ Hid (S.length = n ∧ ∀ i, -(8 * ((n - m : Nat) : Int)) ≤ S.getD i 0 ∧ S.getD i 0 ≤ 8) ∧ Hid (rzF m P S N = rzW S0 n) ∧ Hid (Win wr w.heap.size gp off m (nI P)) ∧ Hid (RzS w wr gl gu gc sb n cc N S)) (fun t7 _ => lenV t7)
  case atStart => exact ⟨n, 0, List.range n, List.replicate n 0, S0, by omega, by omega, rfl, Lib.hid (by simp), Lib.hid (fun x hx => List.mem_range.1 hx), Lib.hid ⟨by simp, fun i => by rw [show (List.replicate n 0).getD i 0 = 0 by simp [List.getD_eq_getElem?_getD, List.getElem?_replicate]; split <;> rfl]; exact Nat.two_pow_pos n⟩, Lib.hid ⟨HSL.out, fun i => by have := HSB.out i; rw [Nat.sub_self]; simpa using this⟩, Lib.hid rfl, HW8, HS8⟩
  case round =>
    obtain ⟨wk, rfl⟩ : ∃ x, x = wr := ⟨_, rfl⟩
    obtain ⟨m, off, P, N, S, hm, hoff, rfl, HPL, HPN, HN, HS, HF, HW, HZ⟩ := hrel
    clear HS8 HW8
    by_cases hm0 : 0 < m
    · have hd0 : decide ((0 : Int) < (m : Int)) = true := by rw [decide_eq_true_eq]; omega
      go_wp2_with fail
      have hgcp : gc ≠ gp := by omega
      have hsbp : sb ≠ gp := by omega
      have hPm : ∀ x ∈ nI P, ∃ a : Nat, a < n ∧ x = a := fun x hx => by
        unfold nI at hx
        rw [List.mem_map] at hx
        obtain ⟨a, ha, rfl⟩ := hx
        exact ⟨a, HPN.out a ha, rfl⟩
      obtain ⟨hxs, -⟩ := HZ.out.sc.at1 HS.out.1 (by omega)
      have hgcl : gc < wk.heap.size := (HZ.out.sc.lt gc rfl).2
      have hsbl : sb < wk.heap.size := World.block_lt_of_cell? _ _ HZ.out.sbx
      refine (sortFuncW_any 47 #[.pointer (some ⟨sb, 0, none⟩)] enters_rz1 (rzC S) (nI P) m w.heap.size gp off m wk (by rw [nI_len]; exact HPL.out) (by omega) (by omega) (by omega) (Nat.le_refl _) hm0 HZ.out.below.size HW.out (fun x hx y hy w' hg => by
        obtain ⟨a, ha, rfl⟩ := hPm x hx
        obtain ⟨b, hb, rfl⟩ := hPm y hy
        exact rz1_any w' a b n sb gc cc S ((World.cell?_of_block (w := wk) (hg.block sb hsbl (by simp; omega))).trans HZ.out.sbx) hncc hccm (fun k hk => (World.cell?_of_block (w := wk) (hg.block gc hgcl (by simp; omega))).trans (hxs k hk)) ha hb)).mono ?_
      rintro e w9 ⟨rfl, hw9, hg9⟩
      rw [rzC_bef, ← rzQ_nI] at hw9
      have HZ9 := Lib.hid (HZ.out.grown hg9 (by omega) (by omega) (by omega) (by omega) (by omega))
      have hql := rzQ_len S P
      have hqn := rzQ_lt (S := S) HPN.out
      have hFF := HF.out
      obtain ⟨k, rfl⟩ : ∃ k, m = k + 1 := ⟨m - 1, by omega⟩
      rw [rzF] at hFF
      rw [HPL.out] at hql
      obtain ⟨p, R, hq⟩ : ∃ p R, rzQ S P = p :: R := by
        rcases h : rzQ S P with _ | ⟨p, R⟩
        · rw [h] at hql; simp at hql
        · exact ⟨p, R, rfl⟩
      rw [hq] at hql hqn hFF hw9
      simp only [List.length_cons, Nat.add_right_cancel_iff] at hql
      have HRL := Lib.hid hql
      have HRN := Lib.hid (fun x (hx : x ∈ R) => hqn x (List.mem_cons_of_mem _ hx))
      have hpn : p < n := hqn p (by simp)
      have HFF : Hid (rzF k R (rzI p R 0 S N).1 (rzI p R 0 S N).2 = rzW S0 n) := Lib.hid hFF
      have z0 : w9.cell? ⟨gp, off, none⟩ = some (.int .i64 p) := by
        have := hw9.2.2.2.1 0 (by omega)
        simpa [nI] using this
      have HW9 := Lib.hid (Win.tail hw9)
      have HWF := Lib.hid (fun j => hw9.2.2.2.2 j)
      have HWL := Lib.hid (And.intro hw9.2.1 hw9.2.2.1)
      clear hw9 hg9 hPm hxs hgcl hsbl hql hqn hFF hq HW HZ HF
      by_cases hk0 : k = 0
      · subst hk0
        have hR : R = [] := List.eq_nil_of_length_eq_zero HRL.out
        subst hR
        have HS0 : Hid (S.length = n ∧ ∀ i, -(8 * ((n - 0 : Nat) : Int)) ≤ S.getD i 0 ∧ S.getD i 0 ≤ 8) := Lib.hid ⟨HS.out.1, fun i => by have := HS.out.2 i; omega⟩
        have HWE : Hid (Win w9 w.heap.size gp off 0 (nI [])) := Lib.hid ⟨rfl, HWL.out.1, HWL.out.2, fun k hk => by omega, HWF.out⟩
        go_wp2
        go_loopw [45] (fun t45 wr => t45 = .int .i64 0 ∧ wr = w9) (fun _ _ => 0)
        case atStart => exact ⟨rfl, rfl⟩
        case round =>
          obtain ⟨rfl, rfl⟩ := hrel
          go_wp2
          go_roundw
          case rel => exact ⟨0, off, [], N, S, by omega, by omega, rfl, Lib.hid rfl, HRN, HN, HS0, HFF, HWE, HZ9⟩
          case measure => simp [lenV]
      · have hk1 : 0 < k := by omega
        go_wp2
        go_loopw [45] (fun t45 wr => ∃ (i : Nat) (N' : List Nat) (S' : List Int), i ≤ k ∧ t45 = .int .i64 i ∧ Hid (N'.length = n ∧ ∀ j, N'.getD j 0 < 2 ^ n) ∧ Hid (S'.length = n ∧ ∀ j, -(8 * ((n - (k + 1) : Nat) : Int) + (i : Int)) ≤ S'.getD j 0 ∧ S'.getD j 0 ≤ 8) ∧ Hid (rzI p (R.drop i) i S' N' = rzI p R 0 S N) ∧ Hid (Win wr w.heap.size gp (off + 1) k (nI R)) ∧ Hid (RzS w wr gl gu gc sb n cc N' S')) (fun t45 _ => k - (intOf t45).toNat)
        case atStart => exact ⟨0, N, S, by omega, rfl, HN, Lib.hid ⟨HS.out.1, fun j => by have := HS.out.2 j; omega⟩, Lib.hid rfl, HW9, HZ9⟩
        case round =>
          obtain ⟨wl, rfl⟩ : ∃ x, x = wr := ⟨_, rfl⟩
          obtain ⟨i, N', S', hi, rfl, HN', HS', HI, HW', HZ'⟩ := hrel
          by_cases hlt : i < k
          · obtain ⟨o, ho⟩ : ∃ o, o = R.getD i 0 := ⟨_, rfl⟩
            have hil : i < R.length := by rw [HRL.out]; exact hlt
            have hoe : R.drop i = o :: R.drop (i + 1) := by
              rw [List.drop_eq_getElem_cons hil, ho, List.getD_eq_getElem?_getD, List.getElem?_eq_getElem hil]
              rfl
            have hon : o < n := by
              rw [ho, List.getD_eq_getElem?_getD, List.getElem?_eq_getElem hil]
              exact HRN.out _ (List.getElem_mem hil)
            have zo : wl.cell? ⟨gp, off + 1 + i, none⟩ = some (.int .i64 o) := by
              have := HW'.out.2.2.2.1 i hlt
              rwa [nI_getD hil, ← ho] at this
            have HIE := Lib.hid HI.out
            rw [hoe, rzI] at HIE
            have hpn8 : 2 ^ n ≤ 256 := Nat.pow_le_pow_right (n := 2) (j := 8) (by decide) (by omega)
            have zs := HZ'.out.sbx
            obtain ⟨hxs, -⟩ := HZ'.out.sc.at1 HS'.out.1 (by omega)
            have zp := hxs p hpn
            have hsp := HS'.out.2 p
            have hso := HS'.out.2 o
            have zso := hxs o hon
            obtain ⟨hxn, -⟩ := HZ'.out.own.at1 (by rw [nI_len]; exact HN'.out.1) (by omega)
            have u1 := HZ'.out.box.1.2
            have hk8 : k ≤ 8 := by omega
            have hnn : (n : Int) ≤ 5 := by omega
            clear hoe ho hil hxs
            by_cases hc : (i : Int) < S'.getD p 0
            · as_aux_lemma =>
              rw [if_pos hc] at HIE
              have za := hxn p hpn
              rw [nI_getD (by rw [HN'.out.1]; exact hpn)] at za
              have hX := HN'.out.2 p
              have HSP := Lib.hid (show S'.getD p 0 = S'.getD p 0 from rfl)
              generalize S'.getD p 0 = sp at *
              have hdc : decide ((i : Int) < sp) = true := decide_eq_true hc
              have hNX : Hid (∀ x, x < 2 ^ n → (N'.set p x).length = n ∧ ∀ j, (N'.set p x).getD j 0 < 2 ^ n) := Lib.hid fun x hx => ⟨by rw [List.length_set]; exact HN'.out.1, fun j => by
                by_cases e : j = p
                · subst e
                  rw [List.getD_eq_getElem?_getD, List.getElem?_set_self (by rw [HN'.out.1]; exact hpn)]; exact hx
                · rw [List.getD_eq_getElem?_getD, List.getElem?_set_ne (Ne.symm e), ← List.getD_eq_getElem?_getD]; exact HN'.out.2 j⟩
              generalize N'.getD p 0 = X at *
              have hor := or_shl X o (by omega) (by omega)
              have hlt2 : X ||| 2 ^ o < 2 ^ n := Nat.or_lt_two_pow hX (Nat.pow_lt_pow_right (by decide) hon)
              have HNY := Lib.hid (hNX.out _ hlt2)
              generalize X ||| 2 ^ o = Y at *
              go_wp2_with fail
              have c1' := cell_regrown u1
              have c2' := cell_regrown za
              clear za u1 zs zp zso zo
              refine wp_region_below_tail 9 (by kernel_rfl) (by kernel_rfl) ?_
              simp only [List.take_succ_cons, List.take_zero, List.drop_succ_cons, List.drop_zero]
              repeat (go_big_quiet_step (first | (with_reducible fail)))
              refine wpQuiet_nil ?_
              intro wq hbq0
              have hbq := Lib.hid hbq0
              clear hbq0
              clear c1' c2' hor
              have HZQ := Lib.hid (HZ'.out.next hbq.out)
              have HWQ := Lib.hid (HW'.out.below hbq.out)
              obtain ⟨hx2, hf2⟩ := HZQ.out.own.at1 (by rw [nI_len]; exact HN'.out.1) (by omega)
              have fa := hf2 p
              have za := hx2 p hpn
              have HZ2 := Lib.hid (HZQ.out.win HN'.out.1 (by omega) (by omega) (by omega) hwl p Y)
              have HW2 := Lib.hid (HWQ.out.grown (setCell_grown wq ⟨gl, p, none⟩ (.int .i64 (Y : Nat))) (by simp; omega))
              have HS2 : Hid (S'.length = n ∧ ∀ j, -(8 * ((n - (k + 1) : Nat) : Int) + ((i + 1 : Nat) : Int)) ≤ S'.getD j 0 ∧ S'.getD j 0 ≤ 8) := Lib.hid ⟨HS'.out.1, fun j => by have := HS'.out.2 j; omega⟩
              have HIX := Lib.hid HIE
              clear hx2 hf2 HZQ HWQ hbq hNX HIE
              go_wp2
              go_roundw
              case rel => exact ⟨i + 1, N'.set p Y, S', by omega, by go_num, HNY, HS2, HIX, HW2, HZ2⟩
              case measure => simp [intOf]; omega
            · as_aux_lemma =>
              rw [if_neg hc] at HIE
              have za := hxn o hon
              rw [nI_getD (by rw [HN'.out.1]; exact hon)] at za
              have hX := HN'.out.2 o
              have hdc : decide ((i : Int) < S'.getD p 0) = false := decide_eq_false hc
              generalize S'.getD p 0 = sp at *
              have hNX : Hid (∀ x, x < 2 ^ n → (N'.set o x).length = n ∧ ∀ j, (N'.set o x).getD j 0 < 2 ^ n) := Lib.hid fun x hx => ⟨by rw [List.length_set]; exact HN'.out.1, fun j => by
                by_cases e : j = o
                · subst e
                  rw [List.getD_eq_getElem?_getD, List.getElem?_set_self (by rw [HN'.out.1]; exact hon)]; exact hx
                · rw [List.getD_eq_getElem?_getD, List.getElem?_set_ne (Ne.symm e), ← List.getD_eq_getElem?_getD]; exact HN'.out.2 j⟩
              generalize N'.getD o 0 = X at *
              have hor := or_shl X p (by omega) (by omega)
              have hlt2 : X ||| 2 ^ p < 2 ^ n := Nat.or_lt_two_pow hX (Nat.pow_lt_pow_right (by decide) hpn)
              have HNY := Lib.hid (hNX.out _ hlt2)
              generalize X ||| 2 ^ p = Y at *
              have HS2 : Hid ((S'.set o (S'.getD o 0 - 1)).length = n ∧ ∀ j, -(8 * ((n - (k + 1) : Nat) : Int) + ((i + 1 : Nat) : Int)) ≤ (S'.set o (S'.getD o 0 - 1)).getD j 0 ∧ (S'.set o (S'.getD o 0 - 1)).getD j 0 ≤ 8) := Lib.hid ⟨by rw [List.length_set]; exact HS'.out.1, fun j => by
                by_cases e : j = o
                · subst e
                  rw [List.getD_eq_getElem?_getD, List.getElem?_set_self (by rw [HS'.out.1]; exact hon)]
                  simp only [Option.getD_some]
                  omega
                · rw [List.getD_eq_getElem?_getD, List.getElem?_set_ne (Ne.symm e), ← List.getD_eq_getElem?_getD]
                  have := HS'.out.2 j
                  omega⟩
              have HSO := Lib.hid (show S'.getD o 0 = S'.getD o 0 from rfl)
              go_wp2_with fail
              have c1' := cell_regrown u1
              have c2' := cell_regrown za
              clear za u1 zs zp zso zo
              refine wp_region_below_tail 9 (by kernel_rfl) (by kernel_rfl) ?_
              simp only [List.take_succ_cons, List.take_zero, List.drop_succ_cons, List.drop_zero]
              repeat (go_big_quiet_step (first | (with_reducible fail)))
              refine wpQuiet_nil ?_
              intro wq hbq0
              have hbq := Lib.hid hbq0
              clear hbq0
              clear c1' c2' hor
              have HZQ := Lib.hid (HZ'.out.next hbq.out)
              have HWQ := Lib.hid (HW'.out.below hbq.out)
              obtain ⟨hx2, hf2⟩ := HZQ.out.own.at1 (by rw [nI_len]; exact HN'.out.1) (by omega)
              have fa := hf2 o
              have za := hx2 o hon
              have HZ2 := Lib.hid (HZQ.out.win HN'.out.1 (by omega) (by omega) (by omega) hwl o Y)
              have HW2 := Lib.hid (HWQ.out.grown (setCell_grown wq ⟨gl, o, none⟩ (.int .i64 (Y : Nat))) (by simp; omega))
              obtain ⟨hx3, hf3⟩ := HZ2.out.sc.at1 HS'.out.1 (by omega)
              have zs2 := HZ2.out.sbx
              have zo2 := hx3 o hon
              have fo2 := hf3 o
              have HZ3 := Lib.hid (HZ2.out.score HS'.out.1 (by omega) (by omega) (by omega) (by omega) o (S'.getD o 0 - 1))
              have HW3 := Lib.hid (HW2.out.grown (setCell_grown (wq.setCell ⟨gl, o, none⟩ (.int .i64 (Y : Nat))) ⟨gc, o, none⟩ (.int .i64 (S'.getD o 0 - 1))) (by simp; omega))
              have HIX := Lib.hid HIE
              generalize S'.getD o 0 = so at *
              clear hx2 hf2 hx3 hf3 HZQ HWQ hbq hNX HIE
              go_wp2
              go_roundw
              case rel => exact ⟨i + 1, N'.set o Y, S'.set o (so - 1), by omega, by go_num, HNY, HS2, HIX, HW3, HZ3⟩
              case measure => simp [intOf]; omega
          · obtain rfl : i = k := by omega
            have HI2 := HI.out
            rw [List.drop_eq_nil_of_le (by rw [HRL.out]; exact Nat.le_refl _)] at HI2
            have HFE : Hid (rzF i R S' N' = rzW S0 n) := Lib.hid (by
              have := HFF.out
              rw [← HI2, rzI] at this
              exact this)
            have HSE : Hid (S'.length = n ∧ ∀ j, -(8 * ((n - i : Nat) : Int)) ≤ S'.getD j 0 ∧ S'.getD j 0 ≤ 8) := Lib.hid ⟨HS'.out.1, fun j => by have := HS'.out.2 j; omega⟩
            clear HI2
            go_wp2
            go_roundw
            case rel => exact ⟨i, off + 1, R, N', S', by omega, by omega, rfl, HRL, HRN, HN', HSE, HFE, HW', HZ'⟩
            case measure => simp [lenV]
    · obtain rfl : m = 0 := by omega
      have hfe : N = rzW S0 n := by have := HF.out; rwa [rzF] at this
      have HFE := Lib.hid hfe
      have HSy := Lib.hid HZ.out
      have u0 := HSy.out.box.1.1
      have u1 := HSy.out.box.1.2
      have v0 := HSy.out.res.1.1
      have v1 := HSy.out.res.1.2
      have f0 := HSy.out.res.2 0
      have f1 := HSy.out.res.2 1
      have hgt := HSy.out.res.gt
      have HOx := Lib.hid ((HSy.out.own.kept (setCell_grown _ ⟨w.heap.size, 0, none⟩ (.int .i64 n)) (.inr (show some gl ≠ some w.heap.size by simp; omega))).kept (setCell_grown _ ⟨w.heap.size, 1, none⟩ (.slice (some ⟨gl, 0, none⟩) n n)) (.inr (show some gl ≠ some w.heap.size by simp; omega)))
      have HBx := Lib.hid ((HSy.out.below.setCell (p := ⟨w.heap.size, 0, none⟩) (Nat.le_refl _) (.int .i64 n)).setCell (p := ⟨w.heap.size, 1, none⟩) (Nat.le_refl _) (.slice (some ⟨gl, 0, none⟩) n n))
      have R0 : Hid (((wk.setCell ⟨w.heap.size, 0, none⟩ (.int .i64 n)).setCell ⟨w.heap.size, 1, none⟩ (.slice (some ⟨gl, 0, none⟩) n n)).cell? ⟨w.heap.size, 0, none⟩ = some (.int .i64 n)) := (World.cell?_setCell_other _ _ _ _ (by simp)).trans (World.cell?_setCell_same _ _ _ v0)
      have R1 : Hid (((wk.setCell ⟨w.heap.size, 0, none⟩ (.int .i64 n)).setCell ⟨w.heap.size, 1, none⟩ (.slice (some ⟨gl, 0, none⟩) n n)).cell? ⟨w.heap.size, 1, none⟩ = some (.slice (some ⟨gl, 0, none⟩) n n)) := World.cell?_setCell_same _ _ _ ((World.cell?_setCell_other _ _ _ _ (by simp)).trans v1)
      clear HZ HW HF HSy hfe
      go_wp2
      have r0 := R0.out
      have r1 := R1.out
      refine bodyPost_ret (v := .tuple #[.agg #[.int .i64 n, .slice (some ⟨gl, 0, none⟩) n n], .bool true]) (by simp only [results, Tryz.results20]; simp [go_sem, r0, r1]) rfl ⟨_, _, rfl, by rw [← HFE.out]; exact HOx.out, HBx.out⟩
end Go.Proofs.YthoodjjjklbggaaGreatDoor

namespace Go.Proofs.YthoodjjjklbggaaGreatDoor
open Go.RowKit Go.Sort
set_option maxRecDepth 100000
variable {n : Nat} {sl : Value} {xs : List Int} {w : World}
theorem nI_back (q : List Nat) : (nI q).map Int.toNat = q := by
  induction q with
  | nil => rfl
  | cons a q ih =>
    simp only [nI, List.map_cons] at ih ⊢
    rw [ih]; rfl
/-- all triangles, as lists of players -/
theorem triA_mem {xs : List Int} {n : Nat} (hp : tourP n xs) {r : List Int} (h : r ∈ triA xs n n) : ∃ q : List Nat, r = nI q ∧ triQ xs n q := by
  unfold triA at h
  rw [List.mem_flatMap] at h
  obtain ⟨a, ha, h⟩ := h
  unfold triB at h
  rw [List.mem_flatMap] at h
  obtain ⟨b, hb, h⟩ := h
  unfold triC at h
  rw [List.mem_map] at h
  obtain ⟨c, hc, e⟩ := h
  rw [List.mem_filter] at hc
  have ha := List.mem_range.1 ha
  have hb := List.mem_range.1 hb
  have hc1 := List.mem_range.1 hc.1
  have hc2 := hc.2
  unfold triP at hc2
  simp only [Bool.and_eq_true, decide_eq_true_eq] at hc2
  have hbt : ∀ x y, x < n → btI xs x y = true → bt xs x y = true := fun x y hx h => by
    obtain ⟨S, e, -⟩ := (tour_bits hp).1 x (by rw [tour_len hp]; exact hx)
    unfold btI at h
    rwa [bitI_bt e] at h
  exact ⟨[a, b, c], by rw [← e]; rfl, a, b, c, rfl, ha, hb, hc1, hbt _ _ ha hc2.2.2.1, hbt _ _ hb hc2.2.2.2.1, hbt _ _ hc1 hc2.2.2.2.2⟩
theorem triQ_lt {xs : List Int} {n : Nat} {q : List Nat} (h : triQ xs n q) : ∀ x ∈ q, x < n := by
  obtain ⟨a, b, c, rfl, ha, hb, hc, -⟩ := h
  intro x hx
  simp at hx
  omega
set_option maxHeartbeats 1000000 in
theorem cTriOf (hp : tourP n xs) (h : Rd w sl xs) : Calls Tryz.prog 5 #[.agg #[.int .i64 n, sl]] w fun e w' => ∃ v', e = .returned v' ∧ OwnRows w' w.heap.size v' (triA xs n n) ∧ Below w.heap.size w w' := by
  have HR := Lib.hid h
  obtain ⟨A, cA, rfl, -, -, -⟩ := h
  rw [tour_len hp] at *
  have HP := Lib.hid hp
  have HL := Lib.hid (tour_len hp)
  clear hp
  go_enter Tryz.func5, Tryz.ntmps5
  go_wp2_with fail
  have b0 := below_alloc1 w (.cells #[.int .i64 n, .slice A n cA] 25)
  have x0 := TBox.new w n (.slice A n cA) 25
  generalize w.alloc (.cells #[.int .i64 n, .slice A n cA] 25) = w0 at *
  have HX0 := Lib.hid x0
  have HB0 := Lib.hid b0
  clear x0 b0
  have y0_0 := HX0.out.1
  have y1_0 := HX0.out.2
  go_wp2_with fail
  refine (implTourOk n _ xs _ (HR.out.below HB0.out)).mono ?_
  rintro e w1 ⟨rfl, hb1⟩
  rw [tourB_true.2 HP.out]
  have HB1 := Lib.hid (Below.then HB0.out hb1)
  have HX1 := Lib.hid (HX0.out.below hb1)
  clear hb1 y0_0 y1_0 HX0 HB0
  have y0_1 := HX1.out.1
  have y1_1 := HX1.out.2
  go_wp2_with fail
  refine (triangles_any n _ xs _ (HR.out.below HB1.out) HP.out).mono ?_
  rintro e w2 ⟨v, rfl, ho2, hb2⟩
  rw [HL.out] at ho2
  have HB2 := Lib.hid (Below.then HB1.out hb2)
  have HO2 := Lib.hid (ho2.mono HB1.out.size)
  clear hb2 ho2
  go_wp2
  go_ret
  exact ⟨v, rfl, HO2.out, HB2.out⟩
set_option maxHeartbeats 1000000 in
theorem pk1_any (W : World) (u v : Value) (r q : List Nat) (gb : Nat) (hv : W.cell? ⟨gb, 0, none⟩ = some v) (hr : Rd W v (nI r)) (hq : Rd W u (nI q)) (h1 : ∀ x ∈ r, x < 8) (h2 : ∀ x ∈ q, x < 8) :
    Calls Tryz.prog 33 #[u, .pointer (some ⟨gb, 0, none⟩)] W fun e w' => e = .returned (.bool (meetN r q)) ∧ Below W.heap.size W w' := by
  have HR := Lib.hid hr
  have HQ := Lib.hid hq
  obtain ⟨A, c, rfl, -, -, -⟩ := hr
  obtain ⟨B, d, rfl, -, -, -⟩ := hq
  have H1 := Lib.hid h1
  have H2 := Lib.hid h2
  have hs1 := setW_lt8 h1
  have hs2 := setW_lt8 h2
  have hlt : setW r &&& setW q < 256 := Nat.lt_of_le_of_lt Nat.and_le_left hs1
  have hand := i64_and_nat (setW r) (setW q) (by omega) (by omega)
  have HM : Hid (meetN r q = decide (2 ≤ popN 8 (setW r &&& setW q))) := rfl
  clear h1 h2
  go_enter Tryz.func33, Tryz.ntmps33
  go_wp2_with fail
  refine (isetOf_any _ r _ HR.out H1.out).mono ?_
  rintro e w1 ⟨rfl, rfl⟩
  go_wp2_with fail
  refine (isetOf_any _ q _ HQ.out H2.out).mono ?_
  rintro e w1 ⟨rfl, rfl⟩
  generalize setW r &&& setW q = X at *
  generalize setW r = X1 at *
  generalize setW q = X2 at *
  go_wp2_with fail
  refine (ones_any X _ hlt).mono ?_
  rintro e w1 ⟨rfl, rfl⟩
  have hd : decide ((2 : Int) ≤ ((popN 8 X : Nat) : Int)) = decide (2 ≤ popN 8 X) := by rw [decide_eq_decide]; omega
  generalize popN 8 X = P at *
  go_wp2
  go_ret
  exact ⟨by rw [HM.out]; simp [hd], Below.refl _ _⟩
theorem enters_pk1 : Enters 33 := fun _ _ => by kernel_rfl
set_option maxHeartbeats 1000000 in
theorem cPack (hp : tourP n xs) (h : Rd w sl xs) : Calls Tryz.prog 14 #[.agg #[.int .i64 n, sl]] w fun e w' => ∃ (C : Option Addr) (c : Nat) (out : List (List Nat)), e = .returned (.slice C out.length c) ∧ (∀ r ∈ out, triQ xs n r) ∧ (out.Pairwise fun r q => meetN q r = false) ∧ Below w.heap.size w w' := by
  have HR := Lib.hid h
  obtain ⟨A, cA, rfl, -, -, -⟩ := h
  rw [tour_len hp] at *
  have HP := Lib.hid hp
  have h8 : n ≤ 8 := by have := hp.1; omega
  have HTM : Hid (∀ k, k < (triA xs n n).length → ∃ q : List Nat, (triA xs n n).getD k [] = nI q ∧ triQ xs n q) := Lib.hid fun k hk => by
    rw [show (triA xs n n).getD k [] = (triA xs n n)[k] by simp [hk]]
    exact triA_mem hp (List.getElem_mem hk)
  have HTL : Hid ((triA xs n n).length ≤ 512) := Lib.hid (by
    have h1 := triA_len xs n n
    have h2 := nmul_le h8 (Nat.le_refl n)
    omega)
  clear hp
  go_enter Tryz.func14, Tryz.ntmps14
  go_wp2_with fail
  have b0 := below_alloc1 w (.cells #[.int .i64 n, .slice A n cA] 25)
  have x0 := TBox.new w n (.slice A n cA) 25
  generalize w.alloc (.cells #[.int .i64 n, .slice A n cA] 25) = w0 at *
  have HX0 := Lib.hid x0
  have HB0 := Lib.hid b0
  clear x0 b0
  have y0_0 := HX0.out.1
  have y1_0 := HX0.out.2
  go_wp2_with fail
  refine (cTriOf HP.out (HR.out.below HB0.out)).mono ?_
  rintro e w2 ⟨v2, rfl, ho2, hb2⟩
  generalize triA xs n n = T at *
  have hro := ho2.rdr
  have HRO := Lib.hid hro
  obtain ⟨C, cC, rfl, hcC, hlC, hT⟩ := hro
  unfold maxLen at hcC
  have HT := Lib.hid hT
  have HB2 := Lib.hid (Below.then HB0.out hb2)
  have hln := HTL.out
  clear ho2 hb2 hT y0_0 y1_0 HX0 HB0
  go_wp2
  go_loopw [3, 10] (fun t3 t10 wr => ∃ (k : Nat) (out : List (List Nat)), k ≤ T.length ∧ t10 = .int .i64 k ∧ out.length ≤ k ∧ Hid (OwnHd w2 wr t3 (out.map nI)) ∧ Hid (∀ r ∈ out, triQ xs n r) ∧ Hid (out.Pairwise fun r q => meetN q r = false) ∧ Hid (Below w2.heap.size w2 wr)) (fun _ t10 _ => T.length - (intOf t10).toNat)
  case atStart => exact ⟨0, [], by omega, rfl, by simp, Lib.hid (OwnHd.nil_ _ _), Lib.hid (fun r h => by simp at h), Lib.hid List.Pairwise.nil, Lib.hid (Below.refl _ _)⟩
  case round =>
    obtain ⟨wa, rfl⟩ : ∃ x, x = wr := ⟨_, rfl⟩
    obtain ⟨k, out, hk, rfl, hol, HO, HQ, HPW, HB⟩ := hrel
    by_cases hlt : k < T.length
    · as_aux_lemma =>
      obtain ⟨g, rfl, hg, hx⟩ := HT.out (by omega)
      obtain ⟨u, hu, hru⟩ := hx k hlt
      obtain ⟨r, er, hr3⟩ := HTM.out k hlt
      rw [er] at hru
      have zu := (HB.out.cell (by exact hg)).trans hu
      have HRU := Lib.hid hru
      obtain ⟨BU, cU, rfl, -, -, -⟩ := hru
      generalize (nI r).length = lu at *
      have hr8 : ∀ x ∈ r, x < 8 := fun x hx => Nat.lt_of_lt_of_le (triQ_lt hr3 x hx) h8
      have HR3 := Lib.hid hr3
      have HR8 := Lib.hid hr8
      clear hx hu er hr3 hr8
      go_wp2_with fail
      have ba := below_alloc1 wa (.cells #[.slice BU lu cU] 23)
      have zb : (wa.alloc (.cells #[.slice BU lu cU] 23)).cell? ⟨wa.heap.size, 0, none⟩ = some (.slice BU lu cU) := by simp
      have HO1 := Lib.hid (HO.out.below ba)
      have HB1 := Lib.hid (Below.then HB.out ba)
      have HZB := Lib.hid zb
      generalize wa.alloc (.cells #[.slice BU lu cU] 23) = wb at *
      have hlm : (out.map nI).length ≤ 1048576 := by rw [List.length_map]; omega
      obtain ⟨P, hP⟩ : ∃ P : List Int → Bool, ∀ q, P (nI q) = meetN r q := ⟨fun x => meetN r (x.map Int.toNat), fun q => by
        show meetN r ((nI q).map Int.toNat) = meetN r q
        rw [nI_back]⟩
      have hcall : ∀ j, j < (out.map nI).length → ∀ u' w', Below wb.heap.size wb w' → Rd w' u' ((out.map nI).getD j []) → Calls Tryz.prog 33 (#[u'] ++ #[.pointer (some ⟨wa.heap.size, 0, none⟩)]) w' fun e w'' => e = .returned (.bool (P ((out.map nI).getD j []))) ∧ Below w'.heap.size w' w'' := fun j hj u' w' hw' hrd => by
        have hj' : j < out.length := by rw [List.length_map] at hj; exact hj
        have e1 : (out.map nI).getD j [] = nI out[j] := by simp [List.getD_eq_getElem?_getD, hj']
        rw [e1] at hrd ⊢
        rw [hP]
        exact pk1_any w' u' (.slice BU lu cU) r out[j] wa.heap.size ((hw'.cell (World.block_lt_of_cell? _ _ HZB.out)).trans HZB.out) ((HRU.out.below HB1.out).below hw') hrd HR8.out (fun x hx => Nat.lt_of_lt_of_le (triQ_lt (HQ.out _ (List.getElem_mem hj')) x hx) h8)
      have HAN : Hid ((out.map nI).any P = out.any fun q => meetN r q) := Lib.hid (by
        rw [List.any_map]
        congr 1
        funext q
        exact hP q)
      clear hP
      have hrr := HO1.out.rdr HB1.out
      refine (containsFuncV_any 33 #[.pointer (some ⟨wa.heap.size, 0, none⟩)] enters_pk1 _ (out.map nI) P wb hrr hlm hcall).mono ?_
      rintro e w3 ⟨rfl, hb3⟩
      have HO3 := Lib.hid (HO1.out.below hb3)
      have HB3 := Lib.hid (Below.then HB1.out hb3)
      have HZ3 := Lib.hid ((hb3.cell (World.block_lt_of_cell? _ _ HZB.out)).trans HZB.out)
      have hb60 := HB3.out.size
      rw [HAN.out]
      clear hb3 zb ba hrr hcall HO1 HB1 HZB HO HB HAN
      rcases qm : out.any (fun q => meetN r q) with _ | _
      · as_aux_lemma =>
        have HPQ : Hid ((out ++ [r]).Pairwise fun r q => meetN q r = false) := Lib.hid (by
          rw [List.pairwise_append]
          refine ⟨HPW.out, by simp, fun x hx y hy => ?_⟩
          simp at hy
          subst hy
          rw [List.any_eq_false] at qm
          simpa using qm x hx)
        have HQ2 : Hid (∀ x ∈ out ++ [r], triQ xs n x) := Lib.hid (fun x hx => by
          rcases List.mem_append.1 hx with hx | hx
          · exact HQ.out x hx
          · simp at hx; subst hx; exact HR3.out)
        have e3 : (out ++ [r]).map nI = out.map nI ++ [nI r] := by simp
        have HE3 := Lib.hid e3
        clear qm HPW HQ e3
        have z3 := HZ3.out
        have bx := below_alloc1 w3 (.cells #[.slice BU lu cU] 23)
        have HB4 := Lib.hid (Below.then HB3.out bx)
        clear bx
        go_wp2_with (at_builtin; refine wp_append1H w3 rfl (.tmp 19) (.tmp 21) rfl w2 _ (out.map nI) _ (nI r) rfl HO3.out hb60 HRU.out (by simp [Act.eval]) hlm ?_; intro v' w7 ho7 hg7; have HO7 := Lib.hid ho7; have HB7 := Lib.hid (HB3.out.grown hg7 hb60 (fun k hk => (HO3.out.lt k hk).1)); clear ho7 hg7)
        go_roundw
        case rel => exact ⟨k + 1, out ++ [r], by omega, by go_num, by simp; omega, by rw [HE3.out]; exact HO7, HQ2, HPQ, HB7⟩
        case measure => simp [intOf]; omega
      · as_aux_lemma =>
        clear qm
        go_wp2
        go_roundw
        case rel => exact ⟨k + 1, out, by omega, by go_num, by omega, HO3, HQ, HPW, HB3⟩
        case measure => simp [intOf]; omega
    · as_aux_lemma =>
      obtain rfl : k = T.length := by omega
      obtain ⟨D, dd, eD, -, -, -⟩ := HO.out.rdr HB.out
      rw [List.length_map] at eD
      subst eD
      go_wp2
      go_ret
      exact ⟨D, dd, out, rfl, HQ.out, HPW.out, Below.then HB2.out HB.out⟩
end Go.Proofs.YthoodjjjklbggaaGreatDoor

