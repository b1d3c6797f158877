/- Texts put together: Rnm, Dfs. -/
import Derived.Test.YtbkiedhaacapbaaGreatMTop04
import Derived.Test.YtbkiedhaacapbaaGreatMTop02
import Derived.Maps.AppendAt
import Derived.Deep.RegionHeld3
namespace Go.Proofs.YtbkiedhaacapbaaGreat
open Go.RowKit Go.Sort
set_option maxRecDepth 100000

/-! renamed tours -/
abbrev bt (xs : List Int) (a b : Nat) : Bool := (winsN xs a).testBit b
theorem nm_list {n : Nat} (f : Nat → Nat) {a : Nat} (h : a < n) : nmN ((List.range n).map fun a => (f a : Int)) a = f a := by
  unfold nmN; simp [h]
theorem perm_list {n : Nat} (f : Nat → Nat) (h1 : ∀ a, a < n → f a < n) (h2 : ∀ a b, a < n → b < n → f a = f b → a = b) : PermP n ((List.range n).map fun a => (f a : Int)) := by
  refine ⟨by simp, fun x hx => ?_, ?_⟩
  · obtain ⟨a, ha, rfl⟩ := List.mem_map.1 hx
    rw [List.mem_range] at ha
    have := h1 a ha
    omega
  · unfold List.Nodup
    rw [List.pairwise_iff_getElem]
    intro i j hi hj hij e
    simp only [List.length_map, List.length_range] at hi hj
    simp only [List.getElem_map, List.getElem_range] at e
    have := h2 i j hi hj (by exact_mod_cast e)
    omega
open Classical in
noncomputable def invF (n : Nat) (ns : List Int) (i : Nat) : Nat := if h : ∃ a, a < n ∧ nmN ns a = i then Classical.choose h else 0
theorem inv_spec {n : Nat} {ns : List Int} (hP : PermP n ns) {i : Nat} (hi : i < n) : invF n ns i < n ∧ nmN ns (invF n ns i) = i := by
  have hx := nm_surj hP hi
  unfold invF
  rw [dif_pos hx]
  exact Classical.choose_spec hx
theorem inv_nm {n : Nat} {ns : List Int} (hP : PermP n ns) {a : Nat} (ha : a < n) : invF n ns (nmN ns a) = a := by
  have h := inv_spec hP (nm_val hP ha).2
  exact nm_inj hP h.1 ha h.2
theorem rn_exists {xs ns : List Int} {n : Nat} (hn : xs.length = n) (hP : PermP n ns) : rnF xs ns n (rnL xs ns) n 0 := by
  have h : rnF xs ns n ((List.range n).map fun i => ((setOf (fun j => bt xs (invF n ns i) (invF n ns j)) n : Nat) : Int)) n 0 := by
    have e : ∀ i, i < n → ((List.range n).map fun i => ((setOf (fun j => bt xs (invF n ns i) (invF n ns j)) n : Nat) : Int)).getD i 0 = ((setOf (fun j => bt xs (invF n ns i) (invF n ns j)) n : Nat) : Int) := fun i hi => by simp [hi]
    refine ⟨by simp, fun i hi => ⟨_, e i hi, setOf_lt _ _⟩, fun p q hp hq => ?_⟩
    rw [e _ (nm_val hP hp).2]
    show (setOf (fun j => bt xs (invF n ns (nmN ns p)) (invF n ns j)) n).testBit (nmN ns q) = _
    rw [testBit_setOf, inv_nm hP hp, inv_nm hP hq]
    simp [hp, (nm_val hP hq).2]
  have e := rnL_eq hn hP h
  rw [e] at h
  exact h
theorem rn_len {xs ns : List Int} {n : Nat} (hn : xs.length = n) (hP : PermP n ns) : (rnL xs ns).length = n := (rn_exists hn hP).1
theorem rn_bit {xs ns : List Int} {n : Nat} (hn : xs.length = n) (hP : PermP n ns) {p q : Nat} (hp : p < n) (hq : q < n) : bt (rnL xs ns) (nmN ns p) (nmN ns q) = bt xs p q := by
  have := (rn_exists hn hP).2.2 p q hp hq
  unfold bt winsN at *
  rw [this]
  simp [hp]
theorem rn_of {xs ns N : List Int} {n : Nat} (hn : xs.length = n) (hP : PermP n ns) (h1 : N.length = n) (h2 : ∀ i, i < n → ∃ S : Nat, N.getD i 0 = (S : Int) ∧ S < 2 ^ n) (h3 : ∀ p q, p < n → q < n → bt N (nmN ns p) (nmN ns q) = bt xs p q) : N = rnL xs ns :=
  rnL_eq hn hP ⟨h1, h2, fun p q hp hq => by
    have := h3 p q hp hq
    unfold bt winsN at *
    rw [this]; simp [hp]⟩
theorem rn_small {xs ns : List Int} {n : Nat} (hn : xs.length = n) (hP : PermP n ns) {i : Nat} (hi : i < n) : ∃ S : Nat, (rnL xs ns).getD i 0 = (S : Int) ∧ S < 2 ^ n := (rn_exists hn hP).2.1 i hi
/-- one renaming behind another -/
theorem rn_comp {xs p q : List Int} {n : Nat} (hn : xs.length = n) (hP : PermP n p) (hQ : PermP n q) : ∃ r, PermP n r ∧ rnL (rnL xs p) q = rnL xs r := by
  refine ⟨(List.range n).map fun a => ((nmN q (nmN p a) : Nat) : Int), perm_list _ (fun a ha => (nm_val hQ (nm_val hP ha).2).2) (fun a b ha hb e => nm_inj hP ha hb (nm_inj hQ (nm_val hP ha).2 (nm_val hP hb).2 e)), ?_⟩
  refine rn_of hn (perm_list _ (fun a ha => (nm_val hQ (nm_val hP ha).2).2) (fun a b ha hb e => nm_inj hP ha hb (nm_inj hQ (nm_val hP ha).2 (nm_val hP hb).2 e))) (rn_len (rn_len hn hP) hQ) (fun i hi => rn_small (rn_len hn hP) hQ hi) fun a b ha hb => ?_
  rw [nm_list _ ha, nm_list _ hb, rn_bit (rn_len hn hP) hQ (nm_val hP ha).2 (nm_val hP hb).2, rn_bit hn hP ha hb]
/-- what is asked of a list that is a tour, bit by bit -/
theorem tour_bits {s : Int} {xs : List Int} (hp : tourP s xs) : (∀ i, i < xs.length → ∃ S : Nat, xs.getD i 0 = (S : Int) ∧ S < 2 ^ xs.length) ∧ (∀ a, a < xs.length → bt xs a a = false) ∧ (∀ a b, a < xs.length → b < xs.length → a ≠ b → bt xs a b = !bt xs b a) := by
  have hs := hp.2.1
  have hsn : s.toNat = xs.length := by omega
  refine ⟨fun i hi => ?_, fun a ha => ?_, fun a b ha hb hab => ?_⟩
  · have := tour_wins hp hi
    rw [hsn] at this
    exact ⟨_, this.1, this.2.1⟩
  · have := (hp.2.2.2 a ha).1
    rw [bit_nat hp ha] at this
    exact this
  · have key : ∀ a b, a < xs.length → b < xs.length → b < a → bt xs a b = !bt xs b a := fun a b ha hb h => by
      have := (hp.2.2.2 a ha).2 b h
      rw [bit_nat hp ha, bit_nat hp hb] at this
      show (winsN xs a).testBit b = !(winsN xs b).testBit a
      revert this
      cases (winsN xs a).testBit b <;> cases (winsN xs b).testBit a <;> simp
    rcases Nat.lt_or_gt_of_ne hab with h | h
    · rw [key b a hb ha h]; simp
    · exact key a b ha hb h
theorem bitI_bt {xs : List Int} {a b S : Nat} (h : xs.getD a 0 = (S : Int)) : bitI (xs.getD a 0) b = bt xs a b := by
  unfold bt winsN
  rw [h]
  show bitI (S : Int) b = S.testBit b
  unfold bitI
  rw [Nat.testBit_eq_decide_div_mod_eq, decide_eq_decide]
  have : (S : Int) / 2 ^ b % 2 = ((S / 2 ^ b % 2 : Nat) : Int) := by simp
  rw [this]; omega
theorem tour_of_bits {s : Int} {xs : List Int} (h1 : 1 ≤ s ∧ s ≤ 8) (h2 : (xs.length : Int) = s) (hb : ∀ i, i < xs.length → ∃ S : Nat, xs.getD i 0 = (S : Int) ∧ S < 2 ^ xs.length) (hd : ∀ a, a < xs.length → bt xs a a = false) (hx : ∀ a b, a < xs.length → b < xs.length → a ≠ b → bt xs a b = !bt xs b a) : tourP s xs := by
  refine ⟨h1, h2, fun x hx => ?_, fun a ha => ⟨?_, fun b hb' => ?_⟩⟩
  · obtain ⟨i, hi, rfl⟩ := List.getElem_of_mem hx
    obtain ⟨S, e, hS⟩ := hb i hi
    rw [show xs.getD i 0 = xs[i] by simp [hi]] at e
    rw [e, show s.toNat = xs.length by omega]
    have : ((2 : Int) ^ xs.length) = ((2 ^ xs.length : Nat) : Int) := by simp
    rw [this]; omega
  · obtain ⟨S, e, -⟩ := hb a ha
    rw [bitI_bt e]; exact hd a ha
  · obtain ⟨S, e, -⟩ := hb a ha
    obtain ⟨T, e', -⟩ := hb b (by omega)
    rw [bitI_bt e, bitI_bt e', hx a b ha (by omega) (by omega)]
    cases bt xs b a <;> simp
theorem rn_tour {s : Int} {xs ns : List Int} (hp : tourP s xs) (hP : PermP xs.length ns) : tourP s (rnL xs ns) := by
  have hl := rn_len rfl hP
  have hb := tour_bits hp
  refine tour_of_bits hp.1 (by rw [hl]; exact hp.2.1) (fun i hi => ?_) (fun a ha => ?_) (fun a b ha hb' hab => ?_)
  · rw [hl] at hi ⊢; exact rn_small rfl hP hi
  · rw [hl] at ha
    obtain ⟨p, hp', rfl⟩ := nm_surj hP ha
    rw [rn_bit rfl hP hp' hp']; exact hb.2.1 p hp'
  · rw [hl] at ha hb'
    obtain ⟨p, hp', rfl⟩ := nm_surj hP ha
    obtain ⟨q, hq', rfl⟩ := nm_surj hP hb'
    rw [rn_bit rfl hP hp' hq', rn_bit rfl hP hq' hp']
    exact hb.2.2 p q hp' hq' (fun e => hab (by rw [e]))
def idL (n : Nat) : List Int := (List.range n).map fun (a : Nat) => (a : Int)
theorem id_perm (n : Nat) : PermP n (idL n) := perm_list (fun a => a) (fun _ h => h) (fun _ _ _ _ h => h)
theorem rn_id {s : Int} {xs : List Int} (hp : tourP s xs) : rnL xs (idL xs.length) = xs := by
  refine (rn_of rfl (id_perm _) rfl (tour_bits hp).1 fun p q hp' hq => ?_).symm
  have e := fun {a : Nat} (h : a < xs.length) => nm_list (n := xs.length) (fun a => a) h
  unfold idL
  rw [e hp', e hq]
/-- back -/
theorem rn_back {s : Int} {xs p : List Int} (hp : tourP s xs) (hP : PermP xs.length p) : ∃ r, PermP xs.length r ∧ rnL (rnL xs p) r = xs := by
  have hl := rn_len rfl hP
  have hQ : PermP xs.length ((List.range xs.length).map fun i => ((invF xs.length p i : Nat) : Int)) := perm_list _ (fun a ha => (inv_spec hP ha).1) (fun a b ha hb e => by
    rw [← (inv_spec hP ha).2, ← (inv_spec hP hb).2, e])
  refine ⟨_, hQ, ?_⟩
  refine (rn_of hl hQ rfl (tour_bits hp).1 fun a b ha hb => ?_).symm
  rw [nm_list _ ha, nm_list _ hb]
  have h1 := inv_spec hP ha
  have h2 := inv_spec hP hb
  have := rn_bit rfl hP h1.1 h2.1
  rw [h1.2, h2.2] at this
  exact this.symm
end Go.Proofs.YtbkiedhaacapbaaGreat

namespace Go.Proofs.YtbkiedhaacapbaaGreat
open Go.RowKit Go.Sort
set_option maxRecDepth 100000
def nI (l : List Nat) : List Int := l.map fun (a : Nat) => (a : Int)
theorem nI_len (l : List Nat) : (nI l).length = l.length := by simp [nI]
theorem nI_getD {l : List Nat} {k : Nat} (h : k < l.length) : (nI l).getD k 0 = ((l.getD k 0 : Nat) : Int) := by simp [nI, h]
theorem nI_snoc (l : List Nat) (b : Nat) : nI (l ++ [b]) = nI l ++ [(b : Int)] := by simp [nI]
def lastN (way : List Nat) : Nat := way.getD (way.length - 1) 0
def cand (xs : List Int) (n : Nat) (way : List Nat) : List Nat := (memN (winsN xs (lastN way)) n).filter fun b => !way.contains b
def dfs (xs : List Int) (n : Nat) (want : List Nat → Bool) : Nat → List Nat → Option (List Nat)
  | 0, way => if want way = true then some way else none
  | m + 1, way => (cand xs n way).findSome? fun b => dfs xs n want m (way ++ [b])
theorem fs_hit {β : Type} {l : List Nat} {F : Nat → Option β} {k : Nat} {y : β} (hk : k < l.length) (h0 : ∀ j, j < k → F (l.getD j 0) = none) (hy : F (l.getD k 0) = some y) : l.findSome? F = some y := by
  have e : l = l.take k ++ l.getD k 0 :: l.drop (k + 1) := by
    rw [getD_nat hk, ← List.drop_eq_getElem_cons hk, List.take_append_drop]
  have h1 : (l.take k).findSome? F = none := by
    rw [List.findSome?_eq_none_iff]
    intro x hx
    obtain ⟨j, hj, rfl⟩ := List.getElem_of_mem hx
    rw [List.length_take] at hj
    have := h0 j (by omega)
    rw [getD_nat (show j < l.length by omega)] at this
    simpa using this
  rw [e, List.findSome?_append, h1, List.findSome?_cons, hy]
  rfl
theorem fs_miss {β : Type} {l : List Nat} {F : Nat → Option β} (h0 : ∀ j, j < l.length → F (l.getD j 0) = none) : l.findSome? F = none := by
  rw [List.findSome?_eq_none_iff]
  intro x hx
  obtain ⟨j, hj, rfl⟩ := List.getElem_of_mem hx
  have := h0 j hj
  rwa [getD_nat hj] at this
theorem dfs_len {xs : List Int} {n : Nat} {want : List Nat → Bool} : ∀ {m : Nat} {way L : List Nat}, dfs xs n want m way = some L → L.length = way.length + m := by
  intro m
  induction m with
  | zero =>
    intro way L h
    rw [dfs] at h
    split at h
    · injection h with h; subst h; rfl
    · cases h
  | succ m ih =>
    intro way L h
    rw [dfs] at h
    obtain ⟨b, -, hb⟩ := List.exists_of_findSome?_eq_some h
    have := ih hb
    rw [List.length_append, List.length_singleton] at this
    omega
def setW (way : List Nat) : Nat := way.foldl (fun s b => s ||| 2 ^ b) 0
theorem setW_snoc (l : List Nat) (b : Nat) : setW (l ++ [b]) = setW l ||| 2 ^ b := by simp [setW, List.foldl_append]
theorem take_snocN' {l : List Nat} {k : Nat} (hk : k < l.length) : l.take (k + 1) = l.take k ++ [l.getD k 0] := by
  rw [List.take_succ_eq_append_getElem hk, getD_nat hk]
theorem testBit_setW (l : List Nat) (j : Nat) : (setW l).testBit j = l.contains j := by
  have : ∀ k, k ≤ l.length → (setW (l.take k)).testBit j = (l.take k).contains j := by
    intro k
    induction k with
    | zero => intro _; simp [setW]
    | succ k ih =>
      intro hk
      rw [take_snocN' (by omega), setW_snoc, Nat.testBit_or, ih (by omega), Nat.testBit_two_pow, Bool.eq_iff_iff]
      simp
      exact ⟨fun h => h.imp id Eq.symm, fun h => h.imp id Eq.symm⟩
  have := this l.length (Nat.le_refl _)
  rwa [List.take_length] at this
theorem setW_lt {l : List Nat} {n : Nat} (h : ∀ x ∈ l, x < n) : setW l < 2 ^ n := by
  apply Nat.lt_pow_two_of_testBit
  intro i hi
  rw [testBit_setW]
  rcases q : l.contains i with _ | _
  · rfl
  · have := h i (by simpa using q); omega
theorem memN_lessW (S n : Nat) (way : List Nat) : memN (less S (setW way)) n = (memN S n).filter fun b => !way.contains b := by
  unfold memN
  rw [List.filter_filter]
  refine List.filter_congr fun x _ => ?_
  rw [testBit_less, testBit_setW, Bool.and_comm]
theorem cand_lt {xs : List Int} {n : Nat} {way : List Nat} {b : Nat} (h : b ∈ cand xs n way) : b < n ∧ (winsN xs (lastN way)).testBit b = true ∧ ¬ b ∈ way := by
  unfold cand at h
  rw [List.mem_filter] at h
  exact ⟨(mem_memN.1 h.1).1, (mem_memN.1 h.1).2, by simpa using h.2⟩
theorem or_shl'' (S a : Nat) (hS : S < 4611686018427387904) (h : a ≤ 61) : bits .or .i64 (S : Int) (wrap64 (2 ^ a)) = ((S ||| 2 ^ a : Nat) : Int) := or_shl S a hS h
set_option maxHeartbeats 1000000 in
theorem isetOf_any (v : Value) (way : List Nat) (w : World) (h : Rd w v (nI way)) (hb : ∀ x ∈ way, x < 8) :
    Calls Tryz.prog 79 #[v] w fun e w' => e = .returned (.int .i64 (setW way : Nat)) ∧ w = w' := by
  obtain ⟨A, c, rfl, hl, hm, hc⟩ := h
  rw [nI_len] at hl hc
  unfold maxLen at hm
  have HC := Lib.hid hc
  have HB := Lib.hid hb
  rw [nI_len]
  generalize hn : way.length = n at *
  have HN := Lib.hid hn
  clear hc hb hn
  go_enter Tryz.func79, Tryz.ntmps79
  go_wp2
  go_loop [3, 8] (fun s i => ∃ k : Nat, k ≤ n ∧ i = .int .i64 k ∧ s = .int .i64 (setW (way.take k) : Nat)) (fun _ i => n - (intOf i).toNat)
  case atStart => exact ⟨0, by omega, rfl, by simp [setW]⟩
  case round =>
    obtain ⟨k, hk, rfl, rfl⟩ := hrel
    by_cases hlt : k < n
    · obtain ⟨g, off, rfl, hg, hx⟩ := HC.out (by omega)
      have hxk := hx k hlt
      have hkl : k < way.length := by rw [HN.out]; exact hlt
      rw [nI_getD hkl] at hxk
      have hlt8 : way.getD k 0 < 8 := HB.out _ (by rw [getD_nat hkl]; exact List.getElem_mem _)
      have hs := setW_lt (l := way.take k) (n := 8) fun x hx => HB.out x (List.mem_of_mem_take hx)
      have HS : Hid (setW (way.take (k + 1)) = setW (way.take k) ||| 2 ^ way.getD k 0) := by unfold Hid; rw [take_snocN' hkl, setW_snoc]
      clear hx
      generalize way.getD k 0 = b at *
      generalize setW (way.take k) = S at *
      have hor := or_shl S b (by omega) (by omega)
      go_wp2
      go_round
      case rel => exact ⟨k + 1, by omega, by go_num, by rw [HS.out]⟩
      case measure => simp [intOf]; omega
    · obtain rfl : n = k := by omega
      have HE : Hid (way.take n = way) := List.take_of_length_le (by rw [HN.out]; exact Nat.le_refl _)
      rw [HE.out]
      go_wp2
      go_ret
      exact ⟨rfl, rfl⟩
theorem own_prefix {w : World} {base g n c : Nat} {xs : List Int} {y : Int} (hn : xs.length = n) (h : Own w base (.slice (some ⟨g, 0, none⟩) (n + 1) c) (xs ++ [y])) : Own w base (.slice (some ⟨g, 0, none⟩) n c) xs := by
  subst hn
  refine ⟨by simp, .inr ?_⟩
  rcases h.2 with ⟨e, -⟩ | ⟨g', cap, cur, e, hb, hh, hle, hm, hs, ht⟩
  · cases e
  · injection e with e1 e2 e3
    injection e1 with e1
    injection e1 with e1 _ _
    subst e1 e3
    refine ⟨g, c, cur, rfl, hb, hh, by simp at hle; omega, hm, hs, ?_⟩
    have h1 := congrArg (List.take xs.length) ht
    rw [List.take_take] at h1
    simp at h1
    simpa using h1
theorem run_append1k (w : World) (ty : TypeId) (base : Nat) (v : Value) (xs : List Int) (y : Int) (gx : Nat) (hown : Own w base v xs) (hc : w.cell? ⟨gx, 0, none⟩ = some (.int .i64 y)) (hlen : xs.length ≤ 1099511627776) (hbase : base ≤ w.heap.size) :
    ∃ g c w', (Builtin.append_ #[23, 23] ty #[v, .slice (some ⟨gx, 0, none⟩) 1 1]).run Tryz.prog w = .ok (.slice (some ⟨g, 0, none⟩) (xs.length + 1) c) w' ∧
      Own w' base (.slice (some ⟨g, 0, none⟩) (xs.length + 1) c) (xs ++ [y]) ∧ Own w' base v xs ∧ w.grownBy w' v.ownBlock ∧ (v = .slice (some ⟨g, 0, none⟩) xs.length c ∨ g = w.heap.size) := by
  obtain ⟨i0, hi, hz0, hz1, hz2⟩ := info_parts i64_info
  have hnews : ∀ j u, [Value.int .i64 y][j]? = some u → w.cell? ((⟨gx, 0, none⟩ : Addr).add j) = some u := by
    intro j u hj
    match j, hj with
    | 0, hj => simp at hj; subst hj; simpa [Addr.add] using hc
  have h1 : ∀ u ∈ [Value.int .i64 y], u.oneCell' = true := by intro u hu; simp at hu; subst hu; rfl
  obtain ⟨v', w', hr, h2, h3, -, h5⟩ := run_append_own_at (P := Tryz.prog) w base 23 ty 3 i0 (.int .i64 0) 1 8 Tryz.underlying23 hi hz0 hz1 hz2 rfl (by decide) v xs.length (xs.map (Value.int .i64)) hown ⟨gx, 0, none⟩ 1 1 [.int .i64 y] rfl hnews h1 (by unfold maxLen; omega) (by omega) hbase
  have h2' : Own w' base v' (xs ++ [y]) := by unfold Own; rw [List.length_append, List.map_append]; exact h2
  obtain ⟨A, c', e, -, -, hA⟩ := h2'.form
  obtain ⟨g', rfl, -, -⟩ := hA (by simp)
  rw [List.length_append, List.length_singleton] at e
  subst e
  rcases hown.2 with ⟨rfl, h0⟩ | ⟨g, cap, cur, rfl, hbg, hg, hnc, hcm, hcs, htake⟩
  · refine ⟨g', c', w', hr, h2', ?_, h3, .inr ?_⟩
    · rw [show xs = [] from List.eq_nil_of_length_eq_zero h0]; exact Own.nil_ _ _
    · rcases h5 with h | h
      · simp [Value.ownBlock] at h
      · simpa [Value.ownBlock] using h
  · by_cases hroom : xs.length + 1 ≤ cap
    · have hr' := run_append_room (P := Tryz.prog) w 23 ty 3 i0 Tryz.underlying23 hi g xs.length cap cur hg ⟨gx, 0, none⟩ 1 1 [.int .i64 y] (by rw [hz1]; rfl) hnews h1 hroom (by rw [hz1]; simp; omega)
      have e := hr.symm.trans hr'
      injection e with e1 e2
      injection e1 with e1 e3 e4
      injection e1 with e1
      injection e1 with e1 _ _
      subst e1 e4
      exact ⟨g', c', w', hr, h2', own_prefix rfl h2', h3, .inl rfl⟩
    · have hr' := run_append_grow (P := Tryz.prog) w 23 ty 3 i0 (.int .i64 0) Tryz.underlying23 hi hz0 ⟨g, 0, none⟩ xs.length cap (xs.map (Value.int .i64)) (by rw [hz1]; simp) (hown.cells (g := g) rfl) ⟨gx, 0, none⟩ 1 1 [.int .i64 y] (by rw [hz1]; rfl) hnews (by omega) (by omega) (growslice_fits (by omega) (by rw [hz2]; omega))
      have e := hr.symm.trans hr'
      injection e with e1 e2
      injection e1 with e1 e3 e4
      injection e1 with e1
      injection e1 with e1 _ _
      subst e1 e2
      exact ⟨_, c', _, hr, h2', World.ownsRow.alloc (World.ownsRow.drew hown) _, h3, .inr rfl⟩
theorem step_append1k {ops : Array Oper} {o : Oper} {a : Act} {K : Act → World → Prop} {Q : Exit → Act → World → Prop} {E : Prop} (w : World) (hgd : o.guard = none) (s x : Operand)
    (ho : o.op = .call { callee := .builtin .append, args := #[s, x], argTypes := #[23, 23] })
    (base : Nat) (v : Value) (xs : List Int) (n : Nat) (hn : xs.length = n) (y : Int) (gx : Nat) (hs : a.eval s = v) (hown : Own w base v xs) (hx : a.eval x = .slice (some ⟨gx, 0, none⟩) 1 1) (hc : w.cell? ⟨gx, 0, none⟩ = some (.int .i64 y))
    (hlen : n ≤ 1099511627776) (hbase : base ≤ w.heap.size)
    (h : ∀ g c w', Own w' base (.slice (some ⟨g, 0, none⟩) (n + 1) c) (xs ++ [y]) → Own w' base v xs → w.grownBy w' v.ownBlock → (v = .slice (some ⟨g, 0, none⟩) n c ∨ g = w.heap.size) → K (a.put o.dst (.slice (some ⟨g, 0, none⟩) (n + 1) c)) w') :
    if Region.wanted o (yielded ops a.tmps) = true then Oper.wp Tryz.prog o a w K Q else E := by
  subst hn
  have hw : Region.wanted o (yielded ops a.tmps) = true := by simp [Region.wanted, hgd]
  rw [if_pos hw]
  obtain ⟨g, c, w', hr, h1, h2, h3, h4⟩ := run_append1k w o.type base v xs y gx hown hc hlen hbase
  unfold Oper.wp execOp
  simp only [ho, resolve, invoke, builtin, Sem.run_bind, Sem.run_pure, Result.andThen_ok, List.map_toArray, List.map_cons, List.map_nil, hs, hx, hr]
  exact h g c w' h1 h2 h3 h4
end Go.Proofs.YtbkiedhaacapbaaGreat

