/- Texts put together: PtC, Lev, Parts, Revs, PartO, TrOn, BkF, AllP, KgP, Mix2, Mix3, Perm2, Sym, Sym2, RngF, WayOn. -/
import Derived.Test.YthoodjjjklbggaaDoorMRotational14
import Derived.Test.YthoodjjjklbggaaDoorMRotational02
import Derived.Test.YthoodjjjklbggaaDoorMRotational09
import Derived.Deep.RegionLaw
import Derived.Test.YthoodjjjklbggaaDoorMRotational01
import Derived.Deep.RegionHeld3
import Derived.Test.YthoodjjjklbggaaDoorMRotational07
import Derived.Test.YthoodjjjklbggaaDoorMRotational04
import Derived.Test.YthoodjjjklbggaaDoorMRotational03
import Derived.Test.YthoodjjjklbggaaDoorMRotational11
import Derived.Test.YthoodjjjklbggaaDoorMRotational08
import Derived.RangeFuncNested
import Derived.RangeFuncBound
import Derived.RangeFuncCalls
import Derived.RangeFuncLeaves
import Derived.OwnWalkIn
import Derived.TacticsInMore
import Derived.LoopNIn
import Derived.LoopIn
import Derived.Lib.SliceRun
namespace Go.Proofs.YthoodjjjklbggaaDoor
open Go.RowKit Go.Sort
set_option maxRecDepth 100000
/-- the tour of a set's players -/
def ptL (xs : List Int) (S : Nat) : List Int := toL (fun a b => bt xs ((memN S 8).getD a 0) ((memN S 8).getD b 0)) (memN S 8).length
theorem ptL_len (xs : List Int) (S : Nat) : (ptL xs S).length = (memN S 8).length := toL_len _ _
end Go.Proofs.YthoodjjjklbggaaDoor

namespace Go.Proofs.YthoodjjjklbggaaDoor
open Go.RowKit Go.Sort
set_option maxRecDepth 100000
def lvHit (xs : List Int) (n r : Nat) (f : Nat → Int) (a : Nat) : Bool := (memN (winsN xs a) n).any fun c => f c == (r : Int)
def lv (xs : List Int) (n b : Nat) : Nat → Nat → Int
  | 0, a => if a = b then 0 else -1
  | r + 1, a => if lv xs n b r a < 0 ∧ lvHit xs n r (lv xs n b r) a = true then (r : Int) + 1 else lv xs n b r a
theorem lv_succ (xs : List Int) (n b r a : Nat) : lv xs n b (r + 1) a = if lv xs n b r a < 0 ∧ lvHit xs n r (lv xs n b r) a = true then (r : Int) + 1 else lv xs n b r a := rfl
theorem lv_bd (xs : List Int) (n b : Nat) : ∀ r a, -1 ≤ lv xs n b r a ∧ lv xs n b r a ≤ r := by
  intro r
  induction r with
  | zero => intro a; simp only [lv]; split <;> omega
  | succ r ih => intro a; have := ih a; rw [lv_succ]; split <;> omega
theorem lv_keep {xs : List Int} {n b r a : Nat} (h : 0 ≤ lv xs n b r a) : ∀ d, lv xs n b (r + d) a = lv xs n b r a := by
  intro d
  induction d with
  | zero => rfl
  | succ d ih => rw [← Nat.add_assoc, lv_succ, if_neg (by rw [ih]; omega), ih]
theorem lv_keep' {xs : List Int} {n b r r' a : Nat} (h : 0 ≤ lv xs n b r a) (hr : r ≤ r') : lv xs n b r' a = lv xs n b r a := by
  obtain ⟨d, rfl⟩ := Nat.exists_eq_add_of_le hr
  exact lv_keep h d
theorem lv_at {xs : List Int} {n b : Nat} {d : Nat} : ∀ {r a : Nat}, lv xs n b r a = (d : Int) → d ≤ r ∧ lv xs n b d a = (d : Int) := by
  intro r
  induction r with
  | zero =>
    intro a h
    have := lv_bd xs n b 0 a
    have hd : d = 0 := by omega
    subst hd
    exact ⟨Nat.le_refl _, h⟩
  | succ r ih =>
    intro a h
    by_cases hc : lv xs n b r a < 0 ∧ lvHit xs n r (lv xs n b r) a = true
    · rw [lv_succ, if_pos hc] at h
      have hd : d = r + 1 := by omega
      subst hd
      exact ⟨Nat.le_refl _, by rw [lv_succ, if_pos hc]; omega⟩
    · rw [lv_succ, if_neg hc] at h
      have := ih h
      exact ⟨by omega, this.2⟩
theorem lv_zero {xs : List Int} {n b r a : Nat} (h : lv xs n b r a = 0) : a = b := by
  have := (lv_at (d := 0) h).2
  simp only [lv] at this
  split at this
  · assumption
  · omega
theorem lv_b (xs : List Int) (n b r : Nat) : lv xs n b r b = 0 := by
  have h0 : lv xs n b 0 b = 0 := by simp [lv]
  rw [lv_keep' (r := 0) (by rw [h0]; omega) (by omega), h0]
theorem lvHit_iff {xs : List Int} {n r : Nat} {f : Nat → Int} {a : Nat} : lvHit xs n r f a = true ↔ ∃ c, c ∈ memN (winsN xs a) n ∧ f c = (r : Int) := by
  unfold lvHit
  rw [List.any_eq_true]
  simp
theorem lv_pred {xs : List Int} {n b r a d : Nat} (h : lv xs n b r a = ((d + 1 : Nat) : Int)) : ∃ c, c ∈ memN (winsN xs a) n ∧ lv xs n b r c = (d : Int) := by
  obtain ⟨h1, h2⟩ := lv_at h
  rw [lv_succ] at h2
  by_cases hc : lv xs n b d a < 0 ∧ lvHit xs n d (lv xs n b d) a = true
  · obtain ⟨c, hm, hv⟩ := lvHit_iff.1 hc.2
    exact ⟨c, hm, by rw [lv_keep' (r := d) (by omega) (by omega)]; exact hv⟩
  · rw [if_neg hc] at h2
    have := (lv_bd xs n b d a).2
    omega
theorem lv_step {xs : List Int} {n b a c d : Nat} (hc : c ∈ memN (winsN xs a) n) (h : lv xs n b n c = (d : Int)) (hd : d < n) : 0 ≤ lv xs n b n a ∧ lv xs n b n a ≤ d + 1 := by
  have h2 := (lv_at h).2
  have h3 : 0 ≤ lv xs n b (d + 1) a ∧ lv xs n b (d + 1) a ≤ d + 1 := by
    have hb := lv_bd xs n b (d + 1) a
    refine ⟨?_, by omega⟩
    rw [lv_succ]
    by_cases hl : lv xs n b d a < 0
    · rw [if_pos ⟨hl, lvHit_iff.2 ⟨c, hc, h2⟩⟩]; omega
    · rw [if_neg (fun h => hl h.1)]; omega
  rw [lv_keep' (r := d + 1) h3.1 (by omega)]
  exact h3
theorem lv_chain {xs : List Int} {n b : Nat} : ∀ (d a : Nat), a < n → lv xs n b n a = (d : Int) → ∃ l : List Nat, l.length = d + 1 ∧ l.Nodup ∧ ∀ x ∈ l, x < n ∧ lv xs n b n x ≤ d := by
  intro d
  induction d with
  | zero => intro a ha h; exact ⟨[a], rfl, by simp, fun x hx => by simp at hx; subst hx; exact ⟨ha, by omega⟩⟩
  | succ d ih =>
    intro a ha h
    obtain ⟨c, hc, hv⟩ := lv_pred h
    obtain ⟨l, h1, h2, h3⟩ := ih c (mem_memN.1 hc).1 hv
    refine ⟨a :: l, by simp [h1], ?_, fun x hx => ?_⟩
    · rw [List.nodup_cons]
      exact ⟨fun hm => by have := (h3 a hm).2; omega, h2⟩
    · rw [List.mem_cons] at hx
      rcases hx with rfl | hx
      · exact ⟨ha, by omega⟩
      · have := h3 x hx; exact ⟨this.1, by omega⟩
theorem lv_top {xs : List Int} {n b a d : Nat} (ha : a < n) (h : lv xs n b n a = (d : Int)) : d < n := by
  obtain ⟨l, h1, h2, h3⟩ := lv_chain d a ha h
  have h4 := nodup_le n (nI l) (List.Pairwise.map _ (fun a b hab h => hab (by omega)) h2) (fun y hy => by
    unfold nI at hy
    rw [List.mem_map] at hy
    obtain ⟨x, hx, rfl⟩ := hy
    have := (h3 x hx).1
    omega)
  rw [nI_len] at h4
  omega
def nxt (xs : List Int) (n b : Nat) (m a : Nat) : Nat := ((memN (winsN xs a) n).find? fun c => lv xs n b n c == (m : Int)).getD 0
def gw (xs : List Int) (n b : Nat) : Nat → Nat → List Nat
  | 0, _ => []
  | m + 1, a => nxt xs n b m a :: gw xs n b m (nxt xs n b m a)
theorem gw_len (xs : List Int) (n b : Nat) : ∀ m a, (gw xs n b m a).length = m := by
  intro m
  induction m with
  | zero => intro a; rfl
  | succ m ih => intro a; simp [gw, ih]
def wB (b : Nat) (way : List Nat) : Bool := lastN way == b
theorem lastN_snoc (l : List Nat) (b : Nat) : lastN (l ++ [b]) = b := by simp [lastN]
theorem dfs_lv {xs : List Int} {n b : Nat} : ∀ m way L, m < n → way ≠ [] → dfs xs n (wB b) m way = some L → 0 ≤ lv xs n b n (lastN way) ∧ lv xs n b n (lastN way) ≤ m := by
  intro m
  induction m with
  | zero =>
    intro way L hm hw h
    rw [dfs] at h
    split at h
    · rename_i hq
      have : lastN way = b := by simpa [wB] using hq
      rw [this, lv_b]; omega
    · cases h
  | succ m ih =>
    intro way L hm hw h
    rw [dfs] at h
    obtain ⟨c, hc, hs⟩ := List.exists_of_findSome?_eq_some h
    have h2 := ih (way ++ [c]) L (by omega) (by simp) hs
    rw [lastN_snoc] at h2
    obtain ⟨e, he⟩ := Int.eq_ofNat_of_zero_le h2.1
    have h3 := lv_step ((List.mem_filter.1 hc).1) he (by omega)
    omega
theorem find_some {β : Type} {l : List Nat} {p : Nat → Bool} {F : Nat → Option β} {c : Nat} {y : β} (hf : l.find? p = some c) (h : ∀ x ∈ l, p x = false → F x = none) (hy : F c = some y) : l.findSome? F = some y := by
  induction l with
  | nil => cases hf
  | cons x l ih =>
    rcases q : p x with _ | _
    · rw [List.find?_cons, q] at hf
      rw [List.findSome?_cons, h x (by simp) q]
      exact ih hf (fun z hz => h z (by simp [hz]))
    · rw [List.find?_cons, q] at hf
      injection hf with hf
      subst hf
      rw [List.findSome?_cons, hy]
theorem nxt_find {xs : List Int} {n b m a : Nat} (h : lv xs n b n a = ((m + 1 : Nat) : Int)) : (memN (winsN xs a) n).find? (fun c => lv xs n b n c == (m : Int)) = some (nxt xs n b m a) ∧ nxt xs n b m a ∈ memN (winsN xs a) n ∧ lv xs n b n (nxt xs n b m a) = (m : Int) := by
  obtain ⟨c, hc, hv⟩ := lv_pred h
  rcases q : (memN (winsN xs a) n).find? (fun c => lv xs n b n c == (m : Int)) with _ | c0
  · rw [List.find?_eq_none] at q
    exact absurd (by simpa using hv) (q c hc)
  · have e : nxt xs n b m a = c0 := by unfold nxt; rw [q]; rfl
    have h1 := List.find?_some q
    have h2 := List.mem_of_find?_eq_some q
    rw [e]
    exact ⟨rfl, h2, by simpa using h1⟩
theorem dfs_gw {xs : List Int} {n b : Nat} : ∀ m way, m < n → way ≠ [] → lv xs n b n (lastN way) = (m : Int) → (∀ x ∈ way, (m : Int) ≤ lv xs n b n x) → dfs xs n (wB b) m way = some (way ++ gw xs n b m (lastN way)) := by
  intro m
  induction m with
  | zero =>
    intro way hm hw h ha
    have : lastN way = b := lv_zero h
    rw [dfs, if_pos (by simp [wB, this])]
    simp [gw]
  | succ m ih =>
    intro way hm hw h ha
    obtain ⟨hf, hmem, hv⟩ := nxt_find h
    have e : dfs xs n (wB b) (m + 1) way = (memN (winsN xs (lastN way)) n).findSome? fun c => if (!way.contains c) = true then dfs xs n (wB b) m (way ++ [c]) else none := by
      have : ∀ (l : List Nat) (p : Nat → Bool) (F : Nat → Option (List Nat)), (l.filter p).findSome? F = l.findSome? fun b => if p b = true then F b else none := by
        intro l p F
        induction l with
        | nil => rfl
        | cons x l ih =>
          rcases q : p x with _ | _
          · rw [List.filter_cons_of_neg (by simp [q]), ih, List.findSome?_cons]; simp [q]
          · rw [List.filter_cons_of_pos q, List.findSome?_cons, List.findSome?_cons, ih]; simp [q]
      exact this _ _ _
    rw [e]
    refine find_some hf (fun c hc hp => ?_) ?_
    · split
      · rcases q : dfs xs n (wB b) m (way ++ [c]) with _ | L
        · rfl
        · have h1 := dfs_lv m (way ++ [c]) L (by omega) (by simp) q
          rw [lastN_snoc] at h1
          obtain ⟨d, hd⟩ := Int.eq_ofNat_of_zero_le h1.1
          have h2 := lv_step hc hd (by omega)
          have : ¬ lv xs n b n c = (m : Int) := by simpa using hp
          omega
      · rfl
    · have hni : ¬ nxt xs n b m (lastN way) ∈ way := fun hm => by have := ha _ hm; omega
      rw [if_pos (by simpa using hni), ih (way ++ [nxt xs n b m (lastN way)]) (by omega) (by simp) (by rw [lastN_snoc]; exact hv) (fun x hx => by
        rw [List.mem_append, List.mem_singleton] at hx
        rcases hx with hx | rfl
        · have := ha x hx; omega
        · omega), lastN_snoc, gw, List.append_assoc]
      rfl
noncomputable def wbOk (s : Int) (xs : List Int) (a b : Int) : Bool := tourB s xs && inB a 0 (s - 1) && inB b 0 (s - 1)
noncomputable def wbO (s : Int) (xs : List Int) (a b : Int) : Option (List Nat) :=
  if wbOk s xs a b = true then (if lv xs xs.length b.toNat xs.length a.toNat < 0 then none else some (a.toNat :: gw xs xs.length b.toNat (lv xs xs.length b.toNat xs.length a.toNat).toNat a.toNat)) else none
noncomputable def wbL (s : Int) (xs : List Int) (a b : Int) : List Int := nI ((wbO s xs a b).getD [])
theorem wbO_no {s : Int} {xs : List Int} {a b : Int} (h : wbOk s xs a b = false) : wbO s xs a b = none := by simp [wbO, h]
theorem wbL_len (s : Int) (xs : List Int) (a b : Int) : (wbL s xs a b).length ≤ 16 := by
  unfold wbL
  rw [nI_len]
  unfold wbO
  split
  · rename_i h
    unfold wbOk at h
    rw [Bool.and_eq_true, Bool.and_eq_true] at h
    have hp := tourB_true.1 h.1.1
    have h2 := hp.1
    have h3 := hp.2.1
    split
    · simp
    · have := (lv_bd xs xs.length b.toNat xs.length a.toNat).2
      simp [gw_len]
      omega
  · simp
/-- the first length that leads there -/
theorem wb_hit {xs : List Int} {n a b k : Nat} {L : List Nat} (hk : k < n) (h0 : ∀ j, j < k → dfs xs n (wB b) j [a] = none) (h : dfs xs n (wB b) k [a] = some L) : lv xs n b n a = (k : Int) ∧ L = a :: gw xs n b k a := by
  have h1 := dfs_lv k [a] L hk (by simp) h
  have e : lastN [a] = a := rfl
  rw [e] at h1
  obtain ⟨d, hd⟩ := Int.eq_ofNat_of_zero_le h1.1
  have h2 := dfs_gw d [a] (by omega) (by simp) hd (fun x hx => by simp at hx; subst hx; omega)
  have hdk : d = k := by
    rcases Nat.lt_or_ge d k with h3 | h3
    · rw [h0 d h3] at h2; cases h2
    · omega
  subst hdk
  rw [h] at h2
  injection h2 with h2
  exact ⟨hd, h2⟩
theorem wb_miss {xs : List Int} {n a b : Nat} (ha : a < n) (h0 : ∀ j, j < n → dfs xs n (wB b) j [a] = none) : lv xs n b n a < 0 := by
  rcases Int.lt_or_le (lv xs n b n a) 0 with h | h
  · exact h
  · obtain ⟨d, hd⟩ := Int.eq_ofNat_of_zero_le h
    have h1 := lv_top ha hd
    have h2 := dfs_gw d [a] h1 (by simp) hd (fun x hx => by simp at hx; subst hx; omega)
    rw [h0 d h1] at h2
    cases h2
end Go.Proofs.YthoodjjjklbggaaDoor

namespace Go.Proofs.YthoodjjjklbggaaDoor
open Go.RowKit Go.Sort
set_option maxRecDepth 100000
def bsC (xs : List Int) (x y : Int) : Int := (scK xs y.toNat : Int) - scK xs x.toNat
def ordS (xs : List Int) : List Int := sortR (fun x y => decide (bsC xs x y < 0)) (idxL xs.length)
theorem ordS_len (xs : List Int) : (ordS xs).length = xs.length := by
  have := sortR_len (fun x y => decide (bsC xs x y < 0)) (idxL xs.length) (Nat.le_refl _)
  rw [List.take_length, idxL_len] at this
  exact this
theorem ins_mem (bef : Int → Int → Bool) (S : List Int) (x y : Int) (h : y = x ∨ y ∈ S) : y ∈ insR bef S x := by
  unfold insR
  rw [List.mem_append, List.mem_cons]
  rcases h with h | h
  · exact .inr (.inl h)
  · rw [← List.take_append_drop (posR bef x S S.length) S, List.mem_append] at h
    exact h.imp id .inr
theorem sort_mem (bef : Int → Int → Bool) (L : List Int) : ∀ i, i ≤ L.length → ∀ y, y ∈ L.take i → y ∈ sortR bef (L.take i) := by
  intro i
  induction i with
  | zero => intro _ y h; simp at h
  | succ i ih =>
    intro hi y h
    rw [sortR_succ bef L (by omega)]
    have e : L.take (i + 1) = L.take i ++ [L.getD i 0] := by
      rw [List.take_succ_eq_append_getElem (by omega), show L.getD i 0 = L[i] by simp [show i < L.length by omega]]
    rw [e, List.mem_append, List.mem_singleton] at h
    refine ins_mem _ _ _ _ ?_
    rcases h with h | h
    · exact .inr (ih (by omega) y h)
    · exact .inl h
theorem posR_after {bef : Int → Int → Bool} {x : Int} {S : List Int} : ∀ {k}, k ≤ S.length → ∀ j, posR bef x S k ≤ j → j < k → bef x (S.getD j 0) = true := by
  intro k
  induction k with
  | zero => intro _ j _ h; omega
  | succ k ih =>
    intro hk j hj hjk
    rcases q : bef x (S.getD k 0) with _ | _
    · rw [posR_stop q] at hj; omega
    · rw [posR_go q] at hj
      by_cases e : j = k
      · subst e; exact q
      · exact ih (by omega) j hj (by omega)
theorem posR_before {bef : Int → Int → Bool} {x : Int} {S : List Int} : ∀ {k}, k ≤ S.length → 0 < posR bef x S k → bef x (S.getD (posR bef x S k - 1) 0) = false := by
  intro k
  induction k with
  | zero => intro _ h; simp [posR] at h
  | succ k ih =>
    intro hk h
    rcases q : bef x (S.getD k 0) with _ | _
    · rw [posR_stop q, Nat.add_sub_cancel]; exact q
    · rw [posR_go q] at h ⊢; exact ih (by omega) h
/-- the greater keys stand first -/
theorem ins_sorted {key : Int → Int} {bef : Int → Int → Bool} (hb : ∀ x y, bef x y = decide (key y < key x)) {S : List Int} {x : Int} (hS : S.Pairwise fun a b => key b ≤ key a) : (insR bef S x).Pairwise fun a b => key b ≤ key a := by
  unfold insR
  have hle := posR_le bef x S S.length
  have hS2 := hS
  rw [← List.take_append_drop (posR bef x S S.length) S, List.pairwise_append] at hS2
  have h1 : ∀ y ∈ S.drop (posR bef x S S.length), key y ≤ key x := fun y hy => by
    obtain ⟨j, hj, rfl⟩ := List.getElem_of_mem hy
    rw [List.length_drop] at hj
    have := posR_after (bef := bef) (x := x) (Nat.le_refl S.length) (posR bef x S S.length + j) (by omega) (by omega)
    rw [hb] at this
    have h2 := of_decide_eq_true this
    rw [List.getElem_drop]
    rw [show S.getD (posR bef x S S.length + j) 0 = S[posR bef x S S.length + j] by simp [show posR bef x S S.length + j < S.length by omega]] at h2
    omega
  have h2 : ∀ y ∈ S.take (posR bef x S S.length), key x ≤ key y := fun y hy => by
    rcases Nat.eq_zero_or_pos (posR bef x S S.length) with h0 | h0
    · rw [h0] at hy; simp at hy
    · have hp := posR_before (Nat.le_refl S.length) h0
      rw [hb] at hp
      have h3 := of_decide_eq_false hp
      have hlt : posR bef x S S.length - 1 < S.length := by omega
      rw [show S.getD (posR bef x S S.length - 1) 0 = S[posR bef x S S.length - 1] by simp [hlt]] at h3
      obtain ⟨j, hj, rfl⟩ := List.getElem_of_mem hy
      rw [List.length_take] at hj
      rw [List.getElem_take]
      by_cases e : j = posR bef x S S.length - 1
      · have : S[j]'(by omega) = S[posR bef x S S.length - 1] := by simp [e]
        rw [this]; omega
      · have := List.pairwise_iff_getElem.1 hS j (posR bef x S S.length - 1) (by omega) hlt (by omega)
        omega
  rw [List.pairwise_append, List.pairwise_cons]
  exact ⟨hS2.1, ⟨h1, hS2.2.1⟩, fun a ha b hb => by
    rw [List.mem_cons] at hb
    rcases hb with rfl | hb
    · exact h2 a ha
    · exact hS2.2.2 a ha b hb⟩
theorem sort_sorted {key : Int → Int} {bef : Int → Int → Bool} (hb : ∀ x y, bef x y = decide (key y < key x)) (L : List Int) : ∀ i, i ≤ L.length → (sortR bef (L.take i)).Pairwise fun a b => key b ≤ key a := by
  intro i
  induction i with
  | zero => intro _; simp [sortR]
  | succ i ih => intro hi; rw [sortR_succ bef L (by omega)]; exact ins_sorted hb (ih (by omega))
theorem ordS_facts (xs : List Int) : (∀ i, i < xs.length → ∃ a : Nat, a < xs.length ∧ (ordS xs).getD i 0 = a) ∧ (∀ a, a < xs.length → ∃ i, i < xs.length ∧ (ordS xs).getD i 0 = (a : Int)) ∧
    (∀ i j a b : Nat, i < j → j < xs.length → (ordS xs).getD i 0 = (a : Int) → (ordS xs).getD j 0 = (b : Int) → scK xs b ≤ scK xs a) := by
  have hl := ordS_len xs
  have hm : ∀ y, y ∈ idxL xs.length → y ∈ ordS xs := fun y hy => by
    have := sort_mem (fun x y => decide (bsC xs x y < 0)) (idxL xs.length) (idxL xs.length).length (Nat.le_refl _) y (by rwa [List.take_length])
    rwa [List.take_length] at this
  have hs : (ordS xs).Pairwise fun a b => (scK xs b.toNat : Int) ≤ scK xs a.toNat := by
    have := sort_sorted (key := fun a => (scK xs a.toNat : Int)) (bef := fun x y => decide (bsC xs x y < 0)) (fun x y => by rw [decide_eq_decide]; unfold bsC; omega) (idxL xs.length) (idxL xs.length).length (Nat.le_refl _)
    rwa [List.take_length] at this
  refine ⟨fun i hi => ?_, fun a ha => ?_, fun i j a b hij hj hia hjb => ?_⟩
  · have h1 : (ordS xs).getD i 0 ∈ ordS xs := getD_memI (by omega)
    have h2 : (ordS xs).getD i 0 ∈ idxL xs.length := mem_sortR (i := (idxL xs.length).length) (Nat.le_refl _) (by rw [List.take_length]; exact h1)
    exact idxL_mem h2
  · have h1 := hm (a : Int) (by unfold idxL; rw [List.mem_map]; exact ⟨a, List.mem_range.2 ha, rfl⟩)
    obtain ⟨i, hi, he⟩ := List.getElem_of_mem h1
    exact ⟨i, by omega, by simp [hi, he]⟩
  · have := List.pairwise_iff_getElem.1 hs i j (by omega) (by omega) hij
    rw [show (ordS xs)[i] = (a : Int) by rw [← hia]; simp [show i < (ordS xs).length by omega], show (ordS xs)[j] = (b : Int) by rw [← hjb]; simp [show j < (ordS xs).length by omega], Int.toNat_natCast, Int.toNat_natCast] at this
    omega
theorem scK_le (xs : List Int) (a : Nat) (h : winsN xs a < 256) : scK xs a ≤ 8 := by unfold scK; rw [pop_mem h]; exact memN_len _ _
end Go.Proofs.YthoodjjjklbggaaDoor

namespace Go.Proofs.YthoodjjjklbggaaDoor
open Go.RowKit Go.Sort
set_option maxRecDepth 100000
def revM (L : List Int) (n i : Nat) : List Int := (List.range n).map fun k => if k < i ∨ n - i ≤ k then L.getD (n - 1 - k) 0 else L.getD k 0
theorem revM_len (L : List Int) (n i : Nat) : (revM L n i).length = n := by simp [revM]
theorem revM_at {L : List Int} {n i k : Nat} (h : k < n) : (revM L n i).getD k 0 = if k < i ∨ n - i ≤ k then L.getD (n - 1 - k) 0 else L.getD k 0 := by simp [revM, h]
theorem revM_zero {L : List Int} {n : Nat} (h : L.length = n) : revM L n 0 = L := list_ext0 (revM_len _ _ _) h fun k hk => by rw [revM_at hk, if_neg (by omega)]
theorem revM_end {L : List Int} {n i : Nat} (h : L.length = n) (hi : n ≤ i + i + 1) (hi2 : i + i ≤ n) : revM L n i = L.reverse := list_ext0 (n := n) (revM_len _ _ _) (by rw [List.length_reverse]; exact h) fun k hk => by
  have e : L.reverse.getD k 0 = L.getD (n - 1 - k) 0 := by
    rw [List.getD_eq_getElem?_getD, List.getElem?_reverse (by omega), List.getD_eq_getElem?_getD, h]
  rw [revM_at hk, e]
  split
  · rfl
  · rw [show n - 1 - k = k by omega]
theorem revM_step {L : List Int} {n i j : Nat} (hj : j + i + 1 = n) (hij : i < j) : ((revM L n i).set i (L.getD j 0)).set j (L.getD i 0) = revM L n (i + 1) := list_ext0 (n := n) (by rw [List.length_set, List.length_set, revM_len]) (revM_len _ _ _) fun k hk => by
  by_cases e1 : k = j
  · subst e1
    rw [getD_set_same _ (by rw [List.length_set, revM_len]; exact hk), revM_at hk, if_pos (by omega), show n - 1 - k = i by omega]
  · rw [getD_set_other _ (Ne.symm e1)]
    by_cases e2 : k = i
    · subst e2
      rw [getD_set_same _ (by rw [revM_len]; exact hk), revM_at hk, if_pos (by omega), show n - 1 - k = j by omega]
    · rw [getD_set_other _ (Ne.symm e2), revM_at hk, revM_at hk]
      by_cases h : k < i ∨ n - i ≤ k
      · rw [if_pos h, if_pos (by omega)]
      · rw [if_neg h, if_neg (by omega)]
end Go.Proofs.YthoodjjjklbggaaDoor

namespace Go.Proofs.YthoodjjjklbggaaDoor
open Go.RowKit Go.Sort
set_option maxRecDepth 100000
theorem bit_test0 (S d : Nat) : (bits BinOp.and IntKind.i64 ((S : Int) / 2 ^ d) 1 == 0) = !S.testBit d := by
  have h := bit_test S d
  rw [i64_and_one] at h ⊢
  have h2 : ((S : Int) / 2 ^ d) % 2 = 0 ∨ ((S : Int) / 2 ^ d) % 2 = 1 := by omega
  rw [← h]
  rcases h2 with h2 | h2 <;> rw [h2] <;> rfl
theorem full_all {n S : Nat} (hS : S < 2 ^ n) (h : ∀ a, a < n → S.testBit a = true) : S = 2 ^ n - 1 := Nat.eq_of_testBit_eq fun c => by
  rw [testBit_full]
  rcases Nat.lt_or_ge c n with hc | hc
  · rw [h c hc]; simp [hc]
  · rw [Nat.testBit_lt_two_pow (Nat.lt_of_lt_of_le hS (Nat.pow_le_pow_right (by decide) hc))]
    simp; omega
theorem cell_new1' (w : World) (x : Value) (t : TypeId) : (w.alloc (.cells #[x] t)).cell? ⟨w.heap.size, 0, none⟩ = some x := by simp
theorem clo_zero (xs : List Int) : clo xs 0 := fun b c h _ => by simp at h
theorem clo_full {s : Int} {xs : List Int} (hp : tourP s xs) : clo xs (2 ^ xs.length - 1) := fun b c h hc => by
  rw [testBit_full] at h ⊢
  have hb : b < xs.length := by simpa using h
  rcases Nat.lt_or_ge c xs.length with h1 | h1
  · simpa using h1
  · rw [wins_hi hp hb h1] at hc; cases hc
def partP (a : Nat) (x : Int) : Bool := x.toNat.testBit a
noncomputable def partI (s : Int) (xs : List Int) (a : Int) : Int := if (tourB s xs && inB a 0 (s - 1)) = true then findI (partP a.toNat) (nI (partsN xs (2 ^ xs.length - 1))) else -1
end Go.Proofs.YthoodjjjklbggaaDoor

namespace Go.Proofs.YthoodjjjklbggaaDoor
open Go.RowKit Go.Sort
set_option maxRecDepth 100000
theorem pt_bit (xs : List Int) (S : Nat) {a b : Nat} (ha : a < (memN S 8).length) (hb : b < (memN S 8).length) : bt (ptL xs S) a b = (!(a == b) && bt xs ((memN S 8).getD a 0) ((memN S 8).getD b 0)) := by
  unfold bt winsN
  have hg : (ptL xs S).getD a 0 = ((setOf (toQ (fun a b => bt xs ((memN S 8).getD a 0) ((memN S 8).getD b 0)) a) (memN S 8).length : Nat) : Int) := by
    unfold ptL toL; simp [ha]
  rw [hg, Int.toNat_natCast, testBit_setOf]
  simp [hb, toQ]
  rfl
theorem mem_inj {S a b : Nat} (ha : a < (memN S 8).length) (hb : b < (memN S 8).length) (hab : a ≠ b) : (memN S 8).getD a 0 ≠ (memN S 8).getD b 0 := by
  rw [getD_nat ha, getD_nat hb]
  intro e
  exact hab ((List.getElem_inj (memN_nodup S 8)).1 e)
theorem pt_tour {n : Nat} {xs : List Int} (hp : tourP n xs) {S : Nat} (h1 : 1 ≤ (memN S 8).length) (hM : ∀ b ∈ memN S 8, b < n) : tourP (memN S 8).length (ptL xs S) := by
  have hl := ptL_len xs S
  have h8 := memN_len S 8
  have hx : ∀ a, a < (memN S 8).length → (memN S 8).getD a 0 < n := fun a ha => hM _ (by rw [getD_nat ha]; exact List.getElem_mem _)
  refine tour_of_bits ⟨by omega, by omega⟩ (by rw [hl]) (fun i hi => ?_) (fun a ha => ?_) (fun a b ha hb hab => ?_)
  · rw [hl] at hi ⊢
    exact ⟨_, by unfold ptL toL; simp [hi]; rfl, setOf_lt _ _⟩
  · rw [hl] at ha
    rw [pt_bit xs S ha ha]; simp
  · rw [hl] at ha hb
    rw [pt_bit xs S ha hb, pt_bit xs S hb ha, (tr_bit hp (hx a ha) (hx b hb)).2 (mem_inj ha hb hab)]
    have e1 : (a == b) = false := by simp [hab]
    have e2 : (b == a) = false := by simp [Ne.symm hab]
    rw [e1, e2]
    simp
/-- the tour of the set's players is transitive -/
theorem pt_trans {n : Nat} {xs : List Int} (hp : tourP n xs) {S : Nat} (_h1 : 1 ≤ (memN S 8).length) (hM : ∀ b ∈ memN S 8, b < n) :
    transP (ptL xs S) (memN S 8).length ↔ ∀ x y z, x ∈ memN S 8 → y ∈ memN S 8 → z ∈ memN S 8 → bt xs x y = true → bt xs y z = true → bt xs x z = true := by
  have key : ∀ a b, a < (memN S 8).length → b < (memN S 8).length → (bt (ptL xs S) a b = true ↔ bt xs ((memN S 8).getD a 0) ((memN S 8).getD b 0) = true) := fun a b ha hb => by
    rw [pt_bit xs S ha hb]
    by_cases e : a = b
    · subst e
      have := (tr_bit hp (hM _ (by rw [getD_nat ha]; exact List.getElem_mem _) : (memN S 8).getD a 0 < n) (hM _ (by rw [getD_nat ha]; exact List.getElem_mem _))).1 rfl
      rw [this]; simp
    · simp [e]
  constructor
  · intro h x y z hx hy hz h1 h2
    obtain ⟨a, ha, rfl⟩ := List.getElem_of_mem hx
    obtain ⟨b, hb, rfl⟩ := List.getElem_of_mem hy
    obtain ⟨c, hc, rfl⟩ := List.getElem_of_mem hz
    have k1 := key a b ha hb
    have k2 := key b c hb hc
    have k3 := key a c ha hc
    rw [getD_nat ha, getD_nat hb] at k1
    rw [getD_nat hb, getD_nat hc] at k2
    rw [getD_nat ha, getD_nat hc] at k3
    exact k3.1 (h a b c ha hb hc (k1.2 h1) (k2.2 h2))
  · intro h a b c ha hb hc h1 h2
    exact (key a c ha hc).2 (h _ _ _ (by rw [getD_nat ha]; exact List.getElem_mem _) (by rw [getD_nat hb]; exact List.getElem_mem _) (by rw [getD_nat hc]; exact List.getElem_mem _) ((key a b ha hb).1 h1) ((key b c hb hc).1 h2))
def trN (xs : List Int) (S : Nat) : Bool := decide ((partsN (ptL xs S) (2 ^ (memN S 8).length - 1)).length = (memN S 8).length)
theorem trN_iff {n : Nat} {xs : List Int} (hp : tourP n xs) {S : Nat} (h1 : 1 ≤ (memN S 8).length) (hM : ∀ b ∈ memN S 8, b < n) :
    trN xs S = true ↔ ∀ x y z, x ∈ memN S 8 → y ∈ memN S 8 → z ∈ memN S 8 → bt xs x y = true → bt xs y z = true → bt xs x z = true := by
  unfold trN
  rw [decide_eq_true_eq, trans_iff (pt_tour hp h1 hM), pt_trans hp h1 hM]
end Go.Proofs.YthoodjjjklbggaaDoor

namespace Go.Proofs.YthoodjjjklbggaaDoor
open Go.RowKit Go.Sort
set_option maxRecDepth 100000
/-- nobody beats the whole set, which is transitive -/
noncomputable def okS (xs : List Int) (n S : Nat) : Bool := trN xs S && !((List.range n).any fun a => decide (winsN xs a &&& S = S))
def bkIn (xs : List Int) (S : Nat) (l : List Nat) (o : Nat) : Nat := l.foldl (fun o a => if less S (winsN xs a) = 2 ^ a then o ||| 2 ^ a else o) o
noncomputable def bkK (xs : List Int) (n : Nat) : Nat → Nat
  | 0 => 0
  | k + 1 => if okS xs n (k + 1) = true then bkIn xs (k + 1) (memN (k + 1) 8) (bkK xs n k) else bkK xs n k
theorem bkIn_bit (xs : List Int) (S : Nat) (c : Nat) : ∀ (l : List Nat) (o : Nat), (bkIn xs S l o).testBit c = true ↔ o.testBit c = true ∨ (c ∈ l ∧ less S (winsN xs c) = 2 ^ c) := by
  intro l
  induction l with
  | nil => intro o; simp [bkIn]
  | cons a l ih =>
    intro o
    have : bkIn xs S (a :: l) o = bkIn xs S l (if less S (winsN xs a) = 2 ^ a then o ||| 2 ^ a else o) := rfl
    rw [this, ih]
    by_cases h : less S (winsN xs a) = 2 ^ a
    · rw [if_pos h, Nat.testBit_or, Nat.testBit_two_pow, Bool.or_eq_true, decide_eq_true_eq, List.mem_cons]
      constructor
      · rintro ((h1 | rfl) | h1)
        · exact .inl h1
        · exact .inr ⟨.inl rfl, h⟩
        · exact .inr ⟨.inr h1.1, h1.2⟩
      · rintro (h1 | ⟨rfl | h1, h2⟩)
        · exact .inl (.inl h1)
        · exact .inl (.inr rfl)
        · exact .inr ⟨h1, h2⟩
    · rw [if_neg h, List.mem_cons]
      constructor
      · rintro (h1 | h1)
        · exact .inl h1
        · exact .inr ⟨.inr h1.1, h1.2⟩
      · rintro (h1 | ⟨rfl | h1, h2⟩)
        · exact .inl h1
        · exact absurd h2 h
        · exact .inr ⟨h1, h2⟩
theorem bkK_bit (xs : List Int) (n c : Nat) : ∀ k, (bkK xs n k).testBit c = true ↔ ∃ S, 1 ≤ S ∧ S ≤ k ∧ okS xs n S = true ∧ c ∈ memN S 8 ∧ less S (winsN xs c) = 2 ^ c := by
  intro k
  induction k with
  | zero =>
    simp only [bkK, Nat.zero_testBit]
    constructor
    · intro h; cases h
    · rintro ⟨S, h1, h2, -⟩; omega
  | succ k ih =>
    simp only [bkK]
    by_cases h : okS xs n (k + 1) = true
    · rw [if_pos h, bkIn_bit, ih]
      constructor
      · rintro (⟨S, h1, h2, h3⟩ | h1)
        · exact ⟨S, h1, by omega, h3⟩
        · exact ⟨k + 1, by omega, Nat.le_refl _, h, h1⟩
      · rintro ⟨S, h1, h2, h3⟩
        by_cases e : S = k + 1
        · subst e; exact .inr h3.2
        · exact .inl ⟨S, h1, by omega, h3⟩
    · rw [if_neg h, ih]
      constructor
      · rintro ⟨S, h1, h2, h3⟩; exact ⟨S, h1, by omega, h3⟩
      · rintro ⟨S, h1, h2, h3⟩
        by_cases e : S = k + 1
        · subst e; exact absurd h3.1 h
        · exact ⟨S, h1, by omega, h3⟩
/-- a banks winner is a king -/
theorem bk_king {n : Nat} {xs : List Int} (hp : tourP n xs) {c : Nat} (h : (bkK xs n (2 ^ n - 1)).testBit c = true) : c < n ∧ kingN xs c = true := by
  have h8 : n ≤ 8 := by have := hp.1; omega
  obtain ⟨S, h1, h2, h3, h4, h5⟩ := (bkK_bit xs n c _).1 h
  have hS : S < 2 ^ n := by have := Nat.one_le_two_pow (n := n); omega
  have hc : c < n := bit_lt hS (mem_memN.1 h4).2
  have hother : ∀ d, S.testBit d = true → d ≠ c → bt xs c d = true := fun d hd hdc => by
    have := congrArg (fun z => z.testBit d) h5
    simp only [testBit_less, Nat.testBit_two_pow, hd] at this
    show (winsN xs c).testBit d = true
    rw [decide_eq_false (fun e : c = d => hdc e.symm)] at this
    simpa using this
  refine ⟨hc, (king_iff hp hc).2 fun d hd => ?_⟩
  by_cases e : d = c
  · exact .inl e
  · rcases q : bt xs c d with _ | _
    · right; right
      have hdS : S.testBit d = false := by
        rcases q2 : S.testBit d with _ | _
        · rfl
        · rw [hother d q2 e] at q; cases q
      unfold okS at h3
      rw [Bool.and_eq_true, Bool.not_eq_true', List.any_eq_false] at h3
      have h6 := h3.2 d (by simpa using hd)
      rw [decide_eq_true_eq] at h6
      have hex : ∃ b, S.testBit b = true ∧ bt xs d b = false := by
        refine Classical.byContradiction fun hno => h6 (Nat.eq_of_testBit_eq fun j => ?_)
        rw [Nat.testBit_and]
        rcases q2 : S.testBit j with _ | _
        · simp
        · rcases q3 : bt xs d j with _ | _
          · exact absurd ⟨j, q2, q3⟩ hno
          · have : (winsN xs d).testBit j = true := q3
            rw [this]; rfl
      obtain ⟨b, hb, hdb⟩ := hex
      have hbn : b < n := bit_lt hS hb
      have hbd : b ≠ d := fun e => by subst e; rw [hb] at hdS; cases hdS
      have hbd' := (bt_flip hp hbn hd hbd).2 hdb
      have hbc : b ≠ c := fun e2 => by subst e2; rw [hbd'] at q; cases q
      exact ⟨b, hbn, hother b hb hbc, hbd'⟩
    · exact .inr (.inl rfl)
theorem card_more {T U n c : Nat} (h : ∀ j, T.testBit j = true → U.testBit j = true) (hc : c < n) (h1 : U.testBit c = true) (h2 : T.testBit c = false) : cardN T n + 1 ≤ cardN U n := by
  have e := card_split h n
  have := card_pos hc (S := less U T) (by rw [testBit_less, h1, h2]; rfl)
  omega
theorem card_le (S n : Nat) : cardN S n ≤ n := memN_len S n
theorem max_ex {P : Nat → Prop} (f : Nat → Nat) (N : Nat) (hf : ∀ S, f S ≤ N) : ∀ B, (∃ S, P S ∧ N - f S ≤ B) → ∃ S, P S ∧ ∀ T, P T → f T ≤ f S := by
  intro B
  induction B with
  | zero =>
    rintro ⟨S, h1, h2⟩
    exact ⟨S, h1, fun T _ => by have := hf T; omega⟩
  | succ B ih =>
    rintro ⟨S, h1, h2⟩
    by_cases h : ∀ T, P T → f T ≤ f S
    · exact ⟨S, h1, h⟩
    · obtain ⟨T, hT⟩ := Classical.not_forall.1 h
      obtain ⟨hT1, hT2⟩ := Classical.not_imp.1 hT
      exact ih ⟨T, hT1, by have := hf T; omega⟩
/-- the banks set is not empty -/
theorem bk_some {n : Nat} {xs : List Int} (hp : tourP n xs) : ∃ c, (bkK xs n (2 ^ n - 1)).testBit c = true := by
  have h8 : n ≤ 8 := by have := hp.1; omega
  have hn : 0 < n := by have := hp.1; omega
  let P : Nat → Prop := fun S => S < 2 ^ n ∧ 1 ≤ S ∧ ∀ x y z, S.testBit x = true → S.testBit y = true → S.testBit z = true → bt xs x y = true → bt xs y z = true → bt xs x z = true
  have hP0 : P 1 := ⟨Nat.one_lt_two_pow (by omega), Nat.le_refl _, fun x y z hx hy _ hxy _ => by
    have e : ∀ j, (1 : Nat).testBit j = true → j = 0 := fun j hj => by
      rw [show (1 : Nat) = 2 ^ 0 from rfl, Nat.testBit_two_pow, decide_eq_true_eq] at hj; exact hj.symm
    rw [e x hx, e y hy, (tr_bit hp hn hn).1 rfl] at hxy; cases hxy⟩
  obtain ⟨S, ⟨hS, hS1, hSt⟩, hmax⟩ := max_ex (P := P) (fun S => cardN S n) n (fun S => card_le S n) n ⟨1, hP0, by omega⟩
  have hM : ∀ b ∈ memN S 8, b < n := fun b hb => bit_lt hS (mem_memN.1 hb).2
  obtain ⟨c0, hc0⟩ := Nat.exists_testBit_of_ne_zero (show S ≠ 0 by omega)
  -- a top
  obtain ⟨c, hcS, hcm⟩ := max_ex (P := fun c => S.testBit c = true) (fun c => cardN (S &&& winsN xs c) n) n (fun c => card_le _ n) n ⟨c0, hc0, by omega⟩
  have hcn : c < n := bit_lt hS hcS
  have htop : ∀ b, S.testBit b = true → b ≠ c → bt xs c b = true := fun b hb hbc => by
    have hbn := bit_lt hS hb
    rcases q : bt xs c b with _ | _
    · exfalso
      have hbc' := (bt_flip hp hbn hcn hbc).2 q
      have h1 := card_more (T := S &&& winsN xs c) (U := S &&& winsN xs b) (n := n) (c := c) (fun j hj => by
        rw [Nat.testBit_and, Bool.and_eq_true] at hj ⊢
        exact ⟨hj.1, hSt b c j hb hcS hj.1 hbc' hj.2⟩) hcn (by rw [Nat.testBit_and, hcS]; exact hbc') (by rw [Nat.testBit_and, hcS]; exact (tr_bit hp hcn hcn).1 rfl)
      have := hcm b hb
      omega
    · rfl
  refine ⟨c, (bkK_bit xs n c _).2 ⟨S, hS1, by omega, ?_, mem_memN.2 ⟨by omega, hcS⟩, Nat.eq_of_testBit_eq fun j => ?_⟩⟩
  · unfold okS
    rw [Bool.and_eq_true, Bool.not_eq_true', List.any_eq_false]
    refine ⟨(trN_iff hp (List.length_pos_of_mem (mem_memN.2 ⟨by omega, hcS⟩)) hM).2 fun x y z hx hy hz => hSt x y z (mem_memN.1 hx).2 (mem_memN.1 hy).2 (mem_memN.1 hz).2, fun a ha hd => ?_⟩
    rw [decide_eq_true_eq] at hd
    have han : a < n := by simpa using ha
    have hall : ∀ j, S.testBit j = true → bt xs a j = true := fun j hj => by
      rw [← hd, Nat.testBit_and, Bool.and_eq_true] at hj; exact hj.1
    have haS : S.testBit a = false := by
      rcases q : S.testBit a with _ | _
      · rfl
      · have := hall a q; rw [(tr_bit hp han han).1 rfl] at this; cases this
    have hno : ∀ j, S.testBit j = true → bt xs j a = false := fun j hj => (bt_asym hp han (bit_lt hS hj) (hall j hj)).1
    have hPT : P (S ||| 2 ^ a) := ⟨Nat.or_lt_two_pow hS (Nat.pow_lt_pow_right (by decide) han), by have := Nat.left_le_or (n := S) (m := 2 ^ a); omega, fun x y z hx hy hz hxy hyz => by
      rw [Nat.testBit_or, Nat.testBit_two_pow, Bool.or_eq_true, decide_eq_true_eq] at hx hy hz
      rcases hx with hx | rfl
      · rcases hy with hy | rfl
        · rcases hz with hz | rfl
          · exact hSt x y z hx hy hz hxy hyz
          · rw [hno y hy] at hyz; cases hyz
        · rw [hno x hx] at hxy; cases hxy
      · rcases hz with hz | rfl
        · exact hall z hz
        · rcases hy with hy | rfl
          · rw [hno y hy] at hyz; cases hyz
          · exact hxy⟩
    have h2 := hmax _ hPT
    have h3 := card_more (T := S) (U := S ||| 2 ^ a) (n := n) (c := a) (fun j hj => by rw [Nat.testBit_or, hj]; rfl) han (by rw [Nat.testBit_or, Nat.testBit_two_pow]; simp) haS
    have h4 : cardN (S ||| 2 ^ a) n ≤ cardN S n := h2
    omega
  · rw [testBit_less, Nat.testBit_two_pow]
    by_cases e : c = j
    · subst e
      have : (winsN xs c).testBit c = false := (tr_bit hp hcn hcn).1 rfl
      rw [hcS, this]; simp
    · rw [decide_eq_false e]
      rcases q : S.testBit j with _ | _
      · rfl
      · have : (winsN xs c).testBit j = true := htop j q (Ne.symm e)
        rw [this]; rfl
end Go.Proofs.YthoodjjjklbggaaDoor

namespace Go.Proofs.YthoodjjjklbggaaDoor
open Go.RowKit Go.Sort
set_option maxRecDepth 100000
/-- one pair: the lowest digit turns its result -/
def alStep (s : Nat × List Int) (a b : Nat) : Nat × List Int := (s.1 / 2, if s.1 % 2 = 1 then flipL s.2 a b else s.2)
def alIn (a : Nat) : Nat → Nat → Nat × List Int → Nat × List Int
  | 0, _, s => s
  | m + 1, b, s => alIn a m (b + 1) (alStep s a b)
def alOut (n : Nat) : Nat → Nat → Nat × List Int → Nat × List Int
  | 0, _, s => s
  | m + 1, a, s => alOut n m (a + 1) (alIn a (n - (a + 1)) (a + 1) s)
def al0 (n : Nat) : List Int := toL (fun a b => decide (b < a)) n
def allL (n code : Nat) : List Int := (alOut n n 0 (code, al0 n)).2
theorem al0_tour {n : Nat} (h1 : 1 ≤ n) (h8 : n ≤ 8) : tourP n (al0 n) := by
  have hl : (al0 n).length = n := toL_len _ _
  have hg : ∀ i, i < n → (al0 n).getD i 0 = ((setOf (toQ (fun a b => decide (b < a)) i) n : Nat) : Int) := fun i hi => by unfold al0 toL; simp [hi]
  have hb : ∀ a b, a < n → b < n → bt (al0 n) a b = (!(a == b) && decide (b < a)) := fun a b ha hb => by
    unfold bt winsN
    rw [hg a ha, Int.toNat_natCast, testBit_setOf]
    simp [hb, toQ]
  refine tour_of_bits ⟨by omega, by omega⟩ (by omega) (fun i hi => ?_) (fun a ha => ?_) (fun a b ha hb' hab => ?_)
  · rw [hl] at hi ⊢
    exact ⟨_, hg i hi, setOf_lt _ _⟩
  · rw [hl] at ha
    rw [hb a a ha ha]; simp
  · rw [hl] at ha hb'
    rw [hb a b ha hb', hb b a hb' ha]
    rcases Nat.lt_or_gt_of_ne hab with h | h
    · simp [show ¬ b < a by omega, h, show ¬ b = a by omega]
    · simp [show ¬ a < b by omega, h, show ¬ a = b by omega]
theorem alStep_tour {n : Nat} {s : Nat × List Int} {a b : Nat} (hp : tourP n s.2) (ha : a < n) (hb : b < n) (hab : a ≠ b) : tourP n (alStep s a b).2 := by
  unfold alStep
  have hl : s.2.length = n := by have := hp.2.1; omega
  dsimp only
  split
  · exact flip_tour hp (by omega) (by omega) hab
  · exact hp
theorem alIn_tour {n a : Nat} (ha : a < n) : ∀ (m b : Nat) (s : Nat × List Int), b + m ≤ n → a < b → tourP n s.2 → tourP n (alIn a m b s).2 := by
  intro m
  induction m with
  | zero => intro b s _ _ h; exact h
  | succ m ih => intro b s hb hab h; exact ih (b + 1) _ (by omega) (by omega) (alStep_tour h ha (by omega) (by omega))
theorem alOut_tour {n : Nat} : ∀ (m a : Nat) (s : Nat × List Int), a + m ≤ n → tourP n s.2 → tourP n (alOut n m a s).2 := by
  intro m
  induction m with
  | zero => intro a s _ h; exact h
  | succ m ih => intro a s ha h; exact ih (a + 1) _ (by omega) (alIn_tour (by omega) _ _ _ (by omega) (by omega) h)
theorem all_tour {n : Nat} (h1 : 1 ≤ n) (h8 : n ≤ 8) (code : Nat) : tourP n (allL n code) := alOut_tour n 0 _ (by omega) (al0_tour h1 h8)
end Go.Proofs.YthoodjjjklbggaaDoor

namespace Go.Proofs.YthoodjjjklbggaaDoor
open Go.RowKit Go.Sort
set_option maxRecDepth 100000
section
variable {n : Nat} {xs : List Int}
theorem dom_iff (hp : tourP n xs) {S : Nat} (hS : S < 2 ^ n) : domN xs S = true ↔ ∀ c, c < n → S.testBit c = true ∨ ∃ b, b < n ∧ S.testBit b = true ∧ bt xs b c = true := by
  have hln := tour_len hp
  have h8 : n ≤ 8 := by have := hp.1; omega
  have hM : ∀ b ∈ memN S 8, b < n := fun b hb => bit_lt hS (mem_memN.1 hb).2
  unfold domN
  rw [hln, beq_iff_eq]
  have key : ∀ c, (orK xs (memN S 8) S).testBit c = true ↔ S.testBit c = true ∨ ∃ b, b < n ∧ S.testBit b = true ∧ bt xs b c = true := fun c => by
    rw [testBit_orK, Bool.or_eq_true, List.any_eq_true]
    constructor
    · rintro (h | ⟨b, hb, h⟩)
      · exact .inl h
      · exact .inr ⟨b, hM b hb, (mem_memN.1 hb).2, h⟩
    · rintro (h | ⟨b, hb, h1, h2⟩)
      · exact .inl h
      · exact .inr ⟨b, mem_memN.2 ⟨by omega, h1⟩, h2⟩
  constructor
  · intro h c hc
    refine (key c).1 ?_
    rw [h, testBit_full]
    simpa using hc
  · intro h
    refine Nat.eq_of_testBit_eq fun c => ?_
    rw [testBit_full, Bool.eq_iff_iff, decide_eq_true_eq]
    constructor
    · intro hc
      rcases (key c).1 hc with h1 | ⟨b, hb, -, h2⟩
      · exact bit_lt hS h1
      · exact bt_hi hp hb h2
    · intro hc; exact (key c).2 (h c hc)
theorem full_lt (n : Nat) : 2 ^ n - 1 < 2 ^ n := by have := Nat.one_le_two_pow (n := n); omega
theorem dom_full (hp : tourP n xs) : domN xs (2 ^ n - 1) = true := (dom_iff hp (full_lt n)).2 fun c hc => .inl (by rw [testBit_full]; simpa using hc)
theorem ld_facts (hp : tourP n xs) : ∀ k, k < 2 ^ n → 1 ≤ ldK xs n k ∧ domN xs (ldK xs n k) = true ∧ ∀ S, 1 ≤ S → S ≤ k → domN xs S = true → popN 8 (ldK xs n k) ≤ popN 8 S := by
  have hn : 1 ≤ n := by have := hp.1; omega
  intro k
  induction k with
  | zero =>
    intro _
    refine ⟨?_, dom_full hp, fun S h1 h2 => by omega⟩
    have := Nat.pow_le_pow_right (n := 2) (by decide) hn
    show 1 ≤ 2 ^ n - 1
    omega
  | succ k ih =>
    intro hk
    obtain ⟨h1, h2, h3⟩ := ih (by omega)
    show 1 ≤ ldStep xs (ldK xs n k) (k + 1) ∧ domN xs (ldStep xs (ldK xs n k) (k + 1)) = true ∧ ∀ S, 1 ≤ S → S ≤ k + 1 → domN xs S = true → popN 8 (ldStep xs (ldK xs n k) (k + 1)) ≤ popN 8 S
    unfold ldStep
    by_cases hc : popN 8 (k + 1) < popN 8 (ldK xs n k) ∧ domN xs (k + 1) = true
    · rw [if_pos hc]
      refine ⟨by omega, hc.2, fun S hS1 hS2 hd => ?_⟩
      by_cases e : S = k + 1
      · subst e; exact Nat.le_refl _
      · have := h3 S hS1 (by omega) hd; omega
    · rw [if_neg hc]
      refine ⟨h1, h2, fun S hS1 hS2 hd => ?_⟩
      by_cases e : S = k + 1
      · subst e
        refine Nat.le_of_not_lt fun h => hc ⟨h, hd⟩
      · exact h3 S hS1 (by omega) hd
def ldN (xs : List Int) (n : Nat) : Nat := ldK xs n (2 ^ n - 1)
theorem ld_lt (xs : List Int) (n : Nat) : ldN xs n < 2 ^ n := ldK_lt xs n _ (full_lt n)
theorem ld_dom (hp : tourP n xs) : 1 ≤ ldN xs n ∧ domN xs (ldN xs n) = true := ⟨(ld_facts hp _ (full_lt n)).1, (ld_facts hp _ (full_lt n)).2.1⟩
theorem ld_min (hp : tourP n xs) {S : Nat} (h1 : 1 ≤ S) (hS : S < 2 ^ n) (hd : domN xs S = true) : popN 8 (ldN xs n) ≤ popN 8 S := (ld_facts hp _ (full_lt n)).2.2 S h1 (by omega) hd
theorem n256 (hp : tourP n xs) {S : Nat} (hS : S < 2 ^ n) : S < 256 := Nat.lt_of_lt_of_le hS (Nat.pow_le_pow_right (n := 2) (j := 8) (by decide) (by have := hp.1; omega))
theorem pop_pos {S c : Nat} (hS : S < 256) (h : S.testBit c = true) : 1 ≤ popN 8 S := by
  rw [pop_mem hS]
  exact List.length_pos_of_mem (mem_memN.2 ⟨bit_lt (n := 8) hS h, h⟩)
theorem pop_one {S : Nat} (hS : S < 256) (h : popN 8 S = 1) : ∃ a, S = 2 ^ a := by
  rw [pop_mem hS, List.length_eq_one_iff] at h
  obtain ⟨a, ha⟩ := h
  refine ⟨a, Nat.eq_of_testBit_eq fun j => ?_⟩
  rw [Nat.testBit_two_pow, Bool.eq_iff_iff, decide_eq_true_eq]
  constructor
  · intro hj
    have : j ∈ memN S 8 := mem_memN.2 ⟨bit_lt (n := 8) hS hj, hj⟩
    rw [ha] at this
    exact (List.mem_singleton.1 this).symm
  · rintro rfl
    exact (mem_memN.1 (show a ∈ memN S 8 by rw [ha]; simp)).2
/-- a least dominating set is one player if there is a sovereign -/
theorem ld_one (hp : tourP n xs) : popN 8 (ldN xs n) = 1 ↔ ∃ a, svP xs n a := by
  have h8 : n ≤ 8 := by have := hp.1; omega
  have hl := n256 hp (ld_lt xs n)
  constructor
  · intro h
    obtain ⟨a, ha⟩ := pop_one hl h
    have hd := (ld_dom hp).2
    have hlt := ld_lt xs n
    rw [ha] at hd hlt
    have han : a < n := (Nat.pow_lt_pow_iff_right (by decide)).1 hlt
    refine ⟨a, han, fun b hb => ?_⟩
    by_cases hba : b = a
    · subst hba; exact (tr_bit hp hb hb).1 rfl
    · rcases (dom_iff hp hlt).1 hd b hb with h1 | ⟨c, hc, h1, h2⟩
      · rw [Nat.testBit_two_pow, decide_eq_true_eq] at h1; exact absurd h1.symm hba
      · rw [Nat.testBit_two_pow, decide_eq_true_eq] at h1
        subst h1
        exact (bt_asym hp han hb h2).1
  · rintro ⟨a, ha, hs⟩
    have h1 : 2 ^ a < 2 ^ n := Nat.pow_lt_pow_right (by decide) ha
    have hd : domN xs (2 ^ a) = true := (dom_iff hp h1).2 fun c hc => by
      by_cases e : c = a
      · subst e; exact .inl (by rw [Nat.testBit_two_pow]; simp)
      · exact .inr ⟨a, ha, by rw [Nat.testBit_two_pow]; simp, (bt_flip hp ha hc (Ne.symm e)).2 (hs c hc)⟩
    have h2 := ld_min hp (Nat.one_le_two_pow) h1 hd
    rw [pop_pow (by omega)] at h2
    obtain ⟨c, hc⟩ := Nat.exists_testBit_of_ne_zero (show ldN xs n ≠ 0 by have := (ld_dom hp).1; omega)
    have := pop_pos hl hc
    omega
/-- nobody is left out of a least dominating set -/
theorem ld_less (hp : tourP n xs) {a : Nat} (ha : (ldN xs n).testBit a = true) (h2 : 1 < popN 8 (ldN xs n)) :
    ldN xs n - 2 ^ a = less (ldN xs n) (2 ^ a) ∧ 1 ≤ less (ldN xs n) (2 ^ a) ∧ less (ldN xs n) (2 ^ a) < 2 ^ n ∧ domN xs (less (ldN xs n) (2 ^ a)) = false := by
  have hl := n256 hp (ld_lt xs n)
  have ha8 : a < 8 := bit_lt (n := 8) hl ha
  have hlt : less (ldN xs n) (2 ^ a) < 2 ^ n := less_lt (ld_lt xs n)
  have hsub : ldN xs n - 2 ^ a = less (ldN xs n) (2 ^ a) := sub_less (by omega) (by omega) ha
  have hcard : cardN (less (ldN xs n) (2 ^ a)) 8 + cardN (2 ^ a) 8 = cardN (ldN xs n) 8 := card_split (fun c hc => by
    rw [Nat.testBit_two_pow, decide_eq_true_eq] at hc; subst hc; exact ha) 8
  have e1 : cardN (2 ^ a) 8 = 1 := by
    show (memN (2 ^ a) 8).length = 1
    rw [← pop_mem (Nat.pow_lt_pow_right (n := 8) (by decide) ha8), pop_pow ha8]
  have e2 : cardN (ldN xs n) 8 = popN 8 (ldN xs n) := (pop_mem hl).symm
  have e3 : cardN (less (ldN xs n) (2 ^ a)) 8 = popN 8 (less (ldN xs n) (2 ^ a)) := (pop_mem (n256 hp hlt)).symm
  have h1 : 1 ≤ less (ldN xs n) (2 ^ a) := by
    refine Nat.pos_of_ne_zero fun e => ?_
    rw [e, popN_zero] at e3
    rw [e] at hcard
    omega
  refine ⟨hsub, h1, hlt, ?_⟩
  rcases q : domN xs (less (ldN xs n) (2 ^ a)) with _ | _
  · rfl
  · have := ld_min hp h1 hlt q
    omega
/-- the kings dominate -/
theorem kings_dom (hp : tourP n xs) : domN xs (kgS xs n) = true := (dom_iff hp kg_lt).2 fun c hc => by
  rcases q : kingN xs c with _ | _
  · right
    have hex : ∃ b, b < n ∧ bt xs b c = true := by
      refine Classical.byContradiction fun h => ?_
      have hs : svP xs n c := ⟨hc, fun b hb => by
        rcases q2 : bt xs b c with _ | _
        · rfl
        · exact absurd ⟨b, hb, q2⟩ h⟩
      rw [(sv_king hp hs c hc).2 rfl] at q
      cases q
    obtain ⟨h1, h2, h3⟩ := kst_king hp hc hex
    exact ⟨_, h1, kg_bit.2 ⟨h1, h3⟩, h2⟩
  · exact .inl (kg_bit.2 ⟨hc, q⟩)
theorem kg_pos (hp : tourP n xs) : 1 ≤ kgS xs n := by
  obtain ⟨a, ha, hk⟩ := king_ex hp
  refine Nat.pos_of_ne_zero fun e => ?_
  have := kg_bit.2 ⟨ha, hk⟩
  rw [e, Nat.zero_testBit] at this
  cases this
theorem bkK_lt (hp : tourP n xs) : bkK xs n (2 ^ n - 1) < 2 ^ n := lt_of_testBit fun m hm => by
  rcases q : (bkK xs n (2 ^ n - 1)).testBit m with _ | _
  · rfl
  · have := (bk_king hp q).1; omega
/-- what the law asks of the sets of kings -/
theorem kg_law (hp : tourP n xs) : ∃ k b : Nat, ∃ s : Int, k = kgS xs n ∧ b = bkK xs n (2 ^ n - 1) ∧ s = svI xs n ∧ 1 ≤ k ∧ k < 256 ∧ 1 ≤ b ∧ b < 256 ∧ less b k = 0 ∧ popN 8 k ≠ 2 ∧
    ((popN 8 k = 1 ∧ 0 ≤ s ∧ k = b ∧ popN 8 b = 1) ∨ (popN 8 k ≠ 1 ∧ s = -1)) := by
  have h8 : n ≤ 8 := by have := hp.1; omega
  have hk := n256 hp (kg_lt (xs := xs) (n := n))
  have hb := n256 hp (bkK_lt hp)
  obtain ⟨c, hc⟩ := bk_some hp
  have hb1 : 1 ≤ bkK xs n (2 ^ n - 1) := Nat.pos_of_ne_zero fun e => by rw [e, Nat.zero_testBit] at hc; cases hc
  have hsub : ∀ c, (bkK xs n (2 ^ n - 1)).testBit c = true → (kgS xs n).testBit c = true := fun c h => kg_bit.2 (bk_king hp h)
  have hless : less (bkK xs n (2 ^ n - 1)) (kgS xs n) = 0 := Nat.eq_of_testBit_eq fun j => by
    rw [testBit_less, Nat.zero_testBit]
    rcases q : (bkK xs n (2 ^ n - 1)).testBit j with _ | _
    · rfl
    · rw [hsub j q]; rfl
  refine ⟨_, _, _, rfl, rfl, rfl, kg_pos hp, hk, hb1, hb, hless, ?_⟩
  rcases svI_facts hp with ⟨a, e, hs⟩ | ⟨e, hs⟩
  · have hkA := sv_kings hp hs
    have han : a < 8 := by have := hs.1; omega
    have hbA : bkK xs n (2 ^ n - 1) = 2 ^ a := Nat.eq_of_testBit_eq fun j => by
      rw [Nat.testBit_two_pow, Bool.eq_iff_iff, decide_eq_true_eq]
      constructor
      · intro h
        have := hsub j h
        rw [hkA, Nat.testBit_two_pow, decide_eq_true_eq] at this
        exact this
      · rintro rfl
        have h2 := hsub c hc
        rw [hkA, Nat.testBit_two_pow, decide_eq_true_eq] at h2
        rw [h2]; exact hc
    rw [hkA, hbA, e, pop_pow han]
    exact ⟨by decide, .inl ⟨rfl, by omega, rfl, rfl⟩⟩
  · have := king_three hp hs
    exact ⟨by omega, .inr ⟨by omega, e⟩⟩
/-- what the law asks of each player -/
theorem kg_player (hp : tourP n xs) {a : Nat} (ha : a < n) : ∃ x y : Nat, x = climbF xs 9 a ∧ y = kstepN xs a ∧ x < n ∧ y < n ∧ kingN xs x = true ∧ (kingN xs a = true → x = a) ∧ (y ≠ a → bt xs y a = true) ∧ (y = a ↔ (a : Int) = svI xs n) := by
  have hln := tour_len hp
  have hstep : ∀ a, a < n → (∃ b, b < n ∧ bt xs b a = true) ∨ svP xs n a := fun a ha => by
    by_cases h : ∃ b, b < n ∧ bt xs b a = true
    · exact .inl h
    · refine .inr ⟨ha, fun b hb => ?_⟩
      rcases q : bt xs b a with _ | _
      · rfl
      · exact absurd ⟨b, hb, q⟩ h
  have hclimb : climbF xs 9 a < n ∧ kingN xs (climbF xs 9 a) = true := by
    rcases q : kingN xs a with _ | _
    · rw [← climb_step hp (by omega) q]
      rcases hstep a ha with h | h
      · obtain ⟨h1, h2, h3⟩ := kst_king hp ha h
        rw [climb_stop h3]
        exact ⟨h1, h3⟩
      · rw [(sv_king hp h a ha).2 rfl] at q; cases q
    · rw [climb_stop q]; exact ⟨ha, q⟩
  refine ⟨_, _, rfl, rfl, hclimb.1, ?_, hclimb.2, fun h => climb_stop h, ?_, ?_⟩
  · have := kstep_lt (xs := xs) (a := a) (by omega); omega
  · intro h
    rcases hstep a ha with h1 | h1
    · exact (kst_king hp ha h1).2.1
    · exact absurd (kst_none hp h1.2) h
  · rcases svI_facts hp with ⟨s, e, hs⟩ | ⟨e, hs⟩
    · constructor
      · intro h
        rcases hstep a ha with h1 | h1
        · have h2 := (kst_king hp ha h1).2.1
          rw [h, (tr_bit hp ha ha).1 rfl] at h2; cases h2
        · have h3 : a = s := (sv_king hp hs a ha).1 ((sv_king hp h1 a ha).2 rfl)
          rw [e, h3]
      · intro h
        have : a = s := by omega
        subst this
        exact kst_none hp hs.2
    · constructor
      · intro h
        rcases hstep a ha with h1 | h1
        · have h2 := (kst_king hp ha h1).2.1
          rw [h, (tr_bit hp ha ha).1 rfl] at h2; cases h2
        · exact absurd h1 (hs a)
      · intro h; omega
/-- who has the greatest score is a king -/
theorem top_king (hp : tourP n xs) {a : Nat} (ha : a < n) (h : ∀ c, c < n → scN xs c ≤ scN xs a) : kingN xs a = true := by
  have hln := tour_len hp
  rcases q : kingN xs a with _ | _
  · have h1 := step_up hp (by omega) q
    have h2 := h (kstepN xs a) (by have := kstep_lt (xs := xs) (a := a) (by omega); omega)
    unfold scN at h2
    omega
  · rfl
/-! contracts -/
variable {sl : Value} {w : World}
def cvB (xs : List Int) (c a : Nat) : Bool := bt xs c a && decide (less (winsN xs a) (winsN xs c) = 0)
theorem cvB_iff (hp : tourP n xs) {c a : Nat} (ha : a < n) : cvB xs c a = true ↔ cvN xs n c a := by
  unfold cvB cvN
  rw [Bool.and_eq_true, decide_eq_true_eq]
  refine and_congr_right fun _ => ?_
  constructor
  · intro h j _ hj
    have := congrArg (fun z => z.testBit j) h
    simp only [testBit_less, Nat.zero_testBit] at this
    rw [show (winsN xs a).testBit j = true from hj] at this
    rcases q : bt xs c j with _ | _
    · rw [show (winsN xs c).testBit j = false from q] at this; cases this
    · rfl
  · intro h
    refine Nat.eq_of_testBit_eq fun j => ?_
    rw [testBit_less, Nat.zero_testBit]
    rcases q : (winsN xs a).testBit j with _ | _
    · rfl
    · rw [show (winsN xs c).testBit j = true from h j (bt_hi hp ha q) q]; rfl
end
/-! counts of tours by their kings -/
noncomputable def ckN (n k : Nat) (l : List Nat) : Nat := (l.filter fun c => decide (popN 8 (kgS (allL n c) n) = k)).length
theorem ck_snoc (n k : Nat) (l : List Nat) (c : Nat) : ckN n k (l ++ [c]) = ckN n k l + (decide (popN 8 (kgS (allL n c) n) = k)).toNat := by
  unfold ckN
  rw [List.filter_append, List.length_append]
  congr 1
  rw [List.filter_cons]
  cases decide (popN 8 (kgS (allL n c) n) = k) <;> simp
theorem ck_le (n k : Nat) (l : List Nat) : ckN n k l ≤ l.length := List.length_filter_le _ _
def sumK (f : Nat → Nat) : Nat → Nat
  | 0 => 0
  | k + 1 => sumK f k + f k
theorem sumK_add (f g : Nat → Nat) : ∀ k, sumK (fun i => f i + g i) k = sumK f k + sumK g k := by
  intro k
  induction k with
  | zero => rfl
  | succ k ih => simp only [sumK, ih]; omega
theorem sumK_one {v : Nat} : ∀ k, v < k → sumK (fun i => (decide (v = i)).toNat) k = 1 := by
  have h0 : ∀ k, k ≤ v → sumK (fun i => (decide (v = i)).toNat) k = 0 := by
    intro k
    induction k with
    | zero => intro _; rfl
    | succ k ih => intro h; simp only [sumK]; rw [ih (by omega), decide_eq_false (by omega)]; rfl
  intro k
  induction k with
  | zero => intro h; omega
  | succ k ih =>
    intro h
    simp only [sumK]
    by_cases e : v = k
    · subst e; rw [h0 v (Nat.le_refl _)]; simp
    · rw [ih (by omega), decide_eq_false e]; rfl
/-- each tour has some number of kings -/
theorem ck_total {n : Nat} (h1 : 1 ≤ n) (h8 : n ≤ 8) (l : List Nat) : sumK (fun k => ckN n k l) (n + 1) = l.length := by
  generalize hm : l.length = m
  induction m generalizing l with
  | zero =>
    obtain rfl := List.length_eq_zero_iff.1 hm
    have : ∀ k, sumK (fun k => ckN n k []) k = 0 := by
      intro k
      induction k with
      | zero => rfl
      | succ k ih => simp only [sumK, ih]; rfl
    exact this _
  | succ m ih =>
    obtain ⟨l', c, rfl⟩ : ∃ l' c, l = l' ++ [c] := ⟨l.dropLast, l.getLast (by intro e; subst e; cases hm), (List.dropLast_concat_getLast _).symm⟩
    have h2 := ih l' (by simpa using hm)
    have e : (fun k => ckN n k (l' ++ [c])) = fun k => ckN n k l' + (decide (popN 8 (kgS (allL n c) n) = k)).toNat := by
      funext k; exact ck_snoc n k l' c
    have hp := all_tour h1 h8 c
    have hle : popN 8 (kgS (allL n c) n) < n + 1 := by
      rw [pop_mem (n256 hp kg_lt)]
      have : memN (kgS (allL n c) n) 8 = memN (kgS (allL n c) n) n := memN_top h8 (Nat.div_eq_of_lt kg_lt)
      rw [this]
      have := memN_len (kgS (allL n c) n) n
      omega
    rw [e, sumK_add, h2, sumK_one _ hle]
theorem ck_two {n : Nat} (h1 : 1 ≤ n) (h8 : n ≤ 8) (l : List Nat) : ckN n 2 l = 0 := by
  unfold ckN
  rw [List.length_eq_zero_iff, List.filter_eq_nil_iff]
  intro c _ h
  rw [decide_eq_true_eq] at h
  obtain ⟨k, b, s, rfl, -, -, -, -, -, -, -, h2, -⟩ := kg_law (all_tour h1 h8 c)
  exact h2 h
end Go.Proofs.YthoodjjjklbggaaDoor

namespace Go.Proofs.YthoodjjjklbggaaDoor
open Go.RowKit

/-- m times the one plus n times the other -/
def mixed (xs ys : List Int) (m n : Int) : List Int := (List.range xs.length).map fun i => m * xs.getD i 0 + n * ys.getD i 0
theorem mixed_length (xs ys : List Int) (m n : Int) : (mixed xs ys m n).length = xs.length := by simp [mixed]
def mixP (xs ys : List Int) (m n : Int) : Prop := (1 ≤ xs.length ∧ xs.length ≤ 8) ∧ ys.length = xs.length ∧ (∀ x ∈ xs, 0 ≤ x ∧ x ≤ 100000) ∧ (∀ y ∈ ys, 0 ≤ y ∧ y ≤ 100000) ∧ (0 ≤ m ∧ m ≤ 1000) ∧ (0 ≤ n ∧ n ≤ 1000)
noncomputable def mixOk (xs ys : List Int) (m n : Int) : Bool := @decide (mixP xs ys m n ∧ gcdL (mixed xs ys m n) ≠ 0) (Classical.propDecidable _)
noncomputable def mixL (xs ys : List Int) (m n : Int) : List Int := if mixOk xs ys m n = true then lowL (mixed xs ys m n) else []
theorem mixOk_true {xs ys : List Int} {m n : Int} : mixOk xs ys m n = true ↔ mixP xs ys m n ∧ gcdL (mixed xs ys m n) ≠ 0 := by unfold mixOk; simp
theorem mixOk_false {xs ys : List Int} {m n : Int} (h : ¬ (mixP xs ys m n ∧ gcdL (mixed xs ys m n) ≠ 0)) : mixOk xs ys m n = false := by
  rcases hb : mixOk xs ys m n with _ | _
  · rfl
  · exact absurd (mixOk_true.1 hb) h
theorem mixL_len (xs ys : List Int) (m n : Int) : (mixL xs ys m n).length ≤ 8 := by
  unfold mixL
  split
  · rename_i h
    have := (mixOk_true.1 h).1.1
    simp [lowL, mixed_length]; omega
  · simp
theorem mixed_bd {xs ys : List Int} {m n : Int} (h : mixP xs ys m n) : ∀ x ∈ mixed xs ys m n, 0 ≤ x ∧ x ≤ 200000000 := by
  intro x hx
  obtain ⟨i, hi, rfl⟩ := List.mem_map.1 hx
  obtain ⟨_, hl, hx, hy, hm, hn⟩ := h
  have hi' : i < xs.length := by simpa using hi
  have h1 := hx xs[i] (List.getElem_mem hi')
  have h2 := hy (ys[i]'(by omega)) (List.getElem_mem _)
  have e1 : xs.getD i 0 = xs[i] := by simp [hi']
  have e2 : ys.getD i 0 = ys[i]'(by omega) := by simp [show i < ys.length by omega]
  rw [e1, e2]
  have a1 : 0 ≤ m * xs[i] := Int.mul_nonneg hm.1 h1.1
  have a2 : m * xs[i] ≤ 1000 * 100000 := Int.mul_le_mul hm.2 h1.2 h1.1 (by omega)
  have b1 : 0 ≤ n * ys[i]'(by omega) := Int.mul_nonneg hn.1 h2.1
  have b2 : n * ys[i]'(by omega) ≤ 1000 * 100000 := Int.mul_le_mul hn.2 h2.2 h2.1 (by omega)
  omega
theorem mixed_take {xs ys : List Int} {m n : Int} {k : Nat} (hk : k < xs.length) : (mixed xs ys m n).take (k + 1) = (mixed xs ys m n).take k ++ [m * xs.getD k 0 + n * ys.getD k 0] := by
  rw [List.take_succ_eq_append_getElem (by rw [mixed_length]; exact hk)]
  simp [mixed]

theorem mix_no {xs ys : List Int} {m n : Int} (h : ¬ mixP xs ys m n) : mixOk xs ys m n = false ∧ mixL xs ys m n = [] := by
  have e := mixOk_false (xs := xs) (ys := ys) (m := m) (n := n) fun hh => h hh.1
  exact ⟨e, by unfold mixL; rw [e]; rfl⟩
theorem allB_trueM {xs : List Int} {lo hi : Int} (h : ∀ x ∈ xs, lo ≤ x ∧ x ≤ hi) : allB xs lo hi = true := by
  unfold allB; rw [List.all_eq_true]; exact fun x hx => inB_true.2 (h x hx)
theorem allB_ofM {xs : List Int} {lo hi : Int} (h : allB xs lo hi = true) : ∀ x ∈ xs, lo ≤ x ∧ x ≤ hi := by
  unfold allB at h; rw [List.all_eq_true] at h; exact fun x hx => inB_true.1 (h x hx)
theorem maxI_gcd {xs : List Int} (h0 : ∀ x ∈ xs, 0 ≤ x) (hne : 0 < xs.length) : (maxI xs == 0) = true ↔ gcdL xs = 0 := by
  have h1 := maxI_pos h0 hne
  have h2 : 0 ≤ maxI xs := by
    obtain ⟨j, hj, e⟩ := maxTo_mem xs (xs.length - 1)
    have hjl : j < xs.length := by omega
    have := h0 _ (List.getElem_mem hjl)
    unfold maxI
    rw [e, List.getElem?_eq_getElem hjl]
    exact this
  rw [gcdL_zero h0, beq_iff_eq]
  constructor
  · intro h x hx
    exact Classical.byContradiction fun hne => by have := h1.2 ⟨x, hx, hne⟩; omega
  · intro h
    have : ¬ 0 < maxI xs := fun hp => by obtain ⟨x, hx, hne⟩ := h1.1 hp; exact hne (h x hx)
    omega
end Go.Proofs.YthoodjjjklbggaaDoor

namespace Go.Proofs.YthoodjjjklbggaaDoor
open Go.RowKit

end Go.Proofs.YthoodjjjklbggaaDoor

namespace Go.Proofs.YthoodjjjklbggaaDoor
open Go.RowKit Go.Sort
set_option maxRecDepth 100000
end Go.Proofs.YthoodjjjklbggaaDoor

namespace Go.Proofs.YthoodjjjklbggaaDoor
open Go.RowKit Go.Sort
set_option maxRecDepth 100000

noncomputable def rnOk (s : Int) (xs ns : List Int) : Bool := tourB s xs && permB xs.length ns
noncomputable def rnS (s : Int) (xs ns : List Int) : Int := if rnOk s xs ns = true then s else 0
noncomputable def rnR (s : Int) (xs ns : List Int) : List Int := if rnOk s xs ns = true then rnL xs ns else []
theorem rn_no {s : Int} {xs ns : List Int} (h : rnOk s xs ns = false) : rnS s xs ns = 0 ∧ rnR s xs ns = [] := by simp [rnS, rnR, h]
theorem rn_yes {s : Int} {xs ns : List Int} (h : rnOk s xs ns = true) : rnS s xs ns = s ∧ rnR s xs ns = rnL xs ns := by simp [rnS, rnR, h]
theorem perm_len_ {n : Nat} {ns : List Int} (h : ns.length ≠ n) : permB n ns = false := permB_false.2 fun hp => h hp.1
noncomputable def symB (s : Int) (xs ns : List Int) : Bool := rnOk s xs ns && decide (xs = rnL xs ns)
set_option maxHeartbeats 1000000 in
theorem implRename (s : Int) (sl : Value) (xs : List Int) (nv : Value) (ns : List Int) (w : World) (h : Rd w sl xs) (h2 : Rd w nv ns) (hl : ns.length ≤ 1099511627776) :
    Calls Tryd.prog 17 #[.agg #[.int .i64 s, sl], nv] w fun e w' => ∃ sl', e = .returned (.tuple #[.agg #[.int .i64 (rnS s xs ns), sl'], .bool (rnOk s xs ns)]) ∧ Own w' w.heap.size sl' (rnR s xs ns) ∧ Below w.heap.size w w' := by
  have HR := Lib.hid h
  have HW := Lib.hid h2
  obtain ⟨A, c, rfl, -, -, -⟩ := h
  obtain ⟨B, d, rfl, -, hdm, -⟩ := h2
  unfold maxLen at hdm
  rcases q0 : tourB s xs with _ | _
  case false =>
    go_enter Tryd.func17, Tryd.ntmps17
    go_wp2_with fail
    have b0 := (below_alloc1 w (.cells #[.int .i64 s, .slice A xs.length c] 25)).alloc (by simp) (.cells #[.int .i64 0, .slice none 0 0] 25)
    have x0 := (TBox.new w s (.slice A xs.length c) 25).below (below_alloc1 _ (.cells #[.int .i64 0, .slice none 0 0] 25))
    have t0 := BoxF.new (w.alloc (.cells #[.int .i64 s, .slice A xs.length c] 25)) 0 (.slice none 0 0) 25
    simp only [World.size_alloc] at t0
    generalize (w.alloc (.cells #[.int .i64 s, .slice A xs.length c] 25)).alloc (.cells #[.int .i64 0, .slice none 0 0] 25) = w0 at *
    have HX0 := Lib.hid x0
    have HB0 := Lib.hid b0
    have HT0 := Lib.hid t0
    clear x0 b0 t0
    have y0_0 := HX0.out.1
    have y1_0 := HX0.out.2
    go_wp2_with fail
    refine (implTourOk s _ xs _ (HR.out.below HB0.out)).mono ?_
    rintro e w1 ⟨rfl, hb⟩
    have HX1 := Lib.hid (HX0.out.below hb)
    have HT1 := Lib.hid (HT0.out.below hb)
    have HB1 := Lib.hid (Below.then HB0.out hb)
    clear hb HX0 HT0 HB0 y0_0 y1_0
    have y0_1 := HX1.out.1
    have y1_1 := HX1.out.2
    rw [q0]
    have v0 := HT1.out.1.1
    have v1 := HT1.out.1.2
    have f0 := HT1.out.2 0
    have f1 := HT1.out.2 1
    have HBx := Lib.hid ((HB1.out.setCell (p := ⟨w.heap.size + 1, 0, none⟩) (by simp) (.int .i64 0)).setCell (p := ⟨w.heap.size + 1, 1, none⟩) (by simp) (.slice none 0 0))
    have R0 : Hid (((w1.setCell ⟨w.heap.size + 1, 0, none⟩ (.int .i64 0)).setCell ⟨w.heap.size + 1, 1, none⟩ (.slice none 0 0)).cell? ⟨w.heap.size + 1, 0, none⟩ = some (.int .i64 0)) := (World.cell?_setCell_other _ _ _ _ (by simp)).trans (World.cell?_setCell_same _ _ _ v0)
    have R1 : Hid (((w1.setCell ⟨w.heap.size + 1, 0, none⟩ (.int .i64 0)).setCell ⟨w.heap.size + 1, 1, none⟩ (.slice none 0 0)).cell? ⟨w.heap.size + 1, 1, none⟩ = some (.slice none 0 0)) := World.cell?_setCell_same _ _ _ ((World.cell?_setCell_other _ _ _ _ (by simp)).trans v1)
    go_wp2
    have r0 := R0.out
    have r1 := R1.out
    have hno : rnOk s xs ns = false := by first | (simp [rnOk, q0]; done) | (rw [rnOk, perm_len_ (by have := hl2.out; simp at q1; omega)]; simp; done) | (rw [rnOk, ← hle.out, q2]; simp; done)
    refine bodyPost_ret (v := .tuple #[.agg #[.int .i64 0, .slice none 0 0], .bool false]) (by simp only [results, Tryd.results17]; simp [go_sem, r0, r1]) rfl ⟨_, by rw [(rn_no hno).1, hno], by rw [(rn_no hno).2]; exact Own.nil_ _ _, HBx.out⟩
  have hp := tourB_true.1 q0
  have hs := hp.1
  have hl2 := Lib.hid hp.2.1
  rcases q1 : ((ns.length : Int) != s) with _ | _
  case true =>
    go_enter Tryd.func17, Tryd.ntmps17
    go_wp2_with fail
    have b0 := (below_alloc1 w (.cells #[.int .i64 s, .slice A xs.length c] 25)).alloc (by simp) (.cells #[.int .i64 0, .slice none 0 0] 25)
    have x0 := (TBox.new w s (.slice A xs.length c) 25).below (below_alloc1 _ (.cells #[.int .i64 0, .slice none 0 0] 25))
    have t0 := BoxF.new (w.alloc (.cells #[.int .i64 s, .slice A xs.length c] 25)) 0 (.slice none 0 0) 25
    simp only [World.size_alloc] at t0
    generalize (w.alloc (.cells #[.int .i64 s, .slice A xs.length c] 25)).alloc (.cells #[.int .i64 0, .slice none 0 0] 25) = w0 at *
    have HX0 := Lib.hid x0
    have HB0 := Lib.hid b0
    have HT0 := Lib.hid t0
    clear x0 b0 t0
    have y0_0 := HX0.out.1
    have y1_0 := HX0.out.2
    go_wp2_with fail
    refine (implTourOk s _ xs _ (HR.out.below HB0.out)).mono ?_
    rintro e w1 ⟨rfl, hb⟩
    have HX1 := Lib.hid (HX0.out.below hb)
    have HT1 := Lib.hid (HT0.out.below hb)
    have HB1 := Lib.hid (Below.then HB0.out hb)
    clear hb HX0 HT0 HB0 y0_0 y1_0
    have y0_1 := HX1.out.1
    have y1_1 := HX1.out.2
    rw [q0]
    have v0 := HT1.out.1.1
    have v1 := HT1.out.1.2
    have f0 := HT1.out.2 0
    have f1 := HT1.out.2 1
    have HBx := Lib.hid ((HB1.out.setCell (p := ⟨w.heap.size + 1, 0, none⟩) (by simp) (.int .i64 0)).setCell (p := ⟨w.heap.size + 1, 1, none⟩) (by simp) (.slice none 0 0))
    have R0 : Hid (((w1.setCell ⟨w.heap.size + 1, 0, none⟩ (.int .i64 0)).setCell ⟨w.heap.size + 1, 1, none⟩ (.slice none 0 0)).cell? ⟨w.heap.size + 1, 0, none⟩ = some (.int .i64 0)) := (World.cell?_setCell_other _ _ _ _ (by simp)).trans (World.cell?_setCell_same _ _ _ v0)
    have R1 : Hid (((w1.setCell ⟨w.heap.size + 1, 0, none⟩ (.int .i64 0)).setCell ⟨w.heap.size + 1, 1, none⟩ (.slice none 0 0)).cell? ⟨w.heap.size + 1, 1, none⟩ = some (.slice none 0 0)) := World.cell?_setCell_same _ _ _ ((World.cell?_setCell_other _ _ _ _ (by simp)).trans v1)
    go_wp2
    have r0 := R0.out
    have r1 := R1.out
    have hno : rnOk s xs ns = false := by first | (simp [rnOk, q0]; done) | (rw [rnOk, perm_len_ (by have := hl2.out; simp at q1; omega)]; simp; done) | (rw [rnOk, ← hle.out, q2]; simp; done)
    refine bodyPost_ret (v := .tuple #[.agg #[.int .i64 0, .slice none 0 0], .bool false]) (by simp only [results, Tryd.results17]; simp [go_sem, r0, r1]) rfl ⟨_, by rw [(rn_no hno).1, hno], by rw [(rn_no hno).2]; exact Own.nil_ _ _, HBx.out⟩
  have hle : Hid (ns.length = xs.length) := by have := hl2.out; simp at q1; unfold Hid; omega
  rcases q2 : permB ns.length ns with _ | _
  case false =>
    go_enter Tryd.func17, Tryd.ntmps17
    go_wp2_with fail
    have b0 := (below_alloc1 w (.cells #[.int .i64 s, .slice A xs.length c] 25)).alloc (by simp) (.cells #[.int .i64 0, .slice none 0 0] 25)
    have x0 := (TBox.new w s (.slice A xs.length c) 25).below (below_alloc1 _ (.cells #[.int .i64 0, .slice none 0 0] 25))
    have t0 := BoxF.new (w.alloc (.cells #[.int .i64 s, .slice A xs.length c] 25)) 0 (.slice none 0 0) 25
    simp only [World.size_alloc] at t0
    generalize (w.alloc (.cells #[.int .i64 s, .slice A xs.length c] 25)).alloc (.cells #[.int .i64 0, .slice none 0 0] 25) = w0 at *
    have HX0 := Lib.hid x0
    have HB0 := Lib.hid b0
    have HT0 := Lib.hid t0
    clear x0 b0 t0
    have y0_0 := HX0.out.1
    have y1_0 := HX0.out.2
    go_wp2_with fail
    refine (implTourOk s _ xs _ (HR.out.below HB0.out)).mono ?_
    rintro e w1 ⟨rfl, hb⟩
    have HX1 := Lib.hid (HX0.out.below hb)
    have HT1 := Lib.hid (HT0.out.below hb)
    have HB1 := Lib.hid (Below.then HB0.out hb)
    clear hb HX0 HT0 HB0 y0_0 y1_0
    have y0_1 := HX1.out.1
    have y1_1 := HX1.out.2
    rw [q0]
    go_wp2_with fail
    refine (isOrder_any _ ns _ (HW.out.below HB1.out) hl).mono ?_
    rintro e w2 ⟨rfl, hb⟩
    have HX2 := Lib.hid (HX1.out.below hb)
    have HT2 := Lib.hid (HT1.out.below hb)
    have HB2 := Lib.hid (Below.then HB1.out hb)
    clear hb HX1 HT1 HB1 y0_1 y1_1
    have y0_2 := HX2.out.1
    have y1_2 := HX2.out.2
    rw [q2]
    have v0 := HT2.out.1.1
    have v1 := HT2.out.1.2
    have f0 := HT2.out.2 0
    have f1 := HT2.out.2 1
    have HBx := Lib.hid ((HB2.out.setCell (p := ⟨w.heap.size + 1, 0, none⟩) (by simp) (.int .i64 0)).setCell (p := ⟨w.heap.size + 1, 1, none⟩) (by simp) (.slice none 0 0))
    have R0 : Hid (((w2.setCell ⟨w.heap.size + 1, 0, none⟩ (.int .i64 0)).setCell ⟨w.heap.size + 1, 1, none⟩ (.slice none 0 0)).cell? ⟨w.heap.size + 1, 0, none⟩ = some (.int .i64 0)) := (World.cell?_setCell_other _ _ _ _ (by simp)).trans (World.cell?_setCell_same _ _ _ v0)
    have R1 : Hid (((w2.setCell ⟨w.heap.size + 1, 0, none⟩ (.int .i64 0)).setCell ⟨w.heap.size + 1, 1, none⟩ (.slice none 0 0)).cell? ⟨w.heap.size + 1, 1, none⟩ = some (.slice none 0 0)) := World.cell?_setCell_same _ _ _ ((World.cell?_setCell_other _ _ _ _ (by simp)).trans v1)
    go_wp2
    have r0 := R0.out
    have r1 := R1.out
    have hno : rnOk s xs ns = false := by first | (simp [rnOk, q0]; done) | (rw [rnOk, perm_len_ (by have := hl2.out; simp at q1; omega)]; simp; done) | (rw [rnOk, ← hle.out, q2]; simp; done)
    refine bodyPost_ret (v := .tuple #[.agg #[.int .i64 0, .slice none 0 0], .bool false]) (by simp only [results, Tryd.results17]; simp [go_sem, r0, r1]) rfl ⟨_, by rw [(rn_no hno).1, hno], by rw [(rn_no hno).2]; exact Own.nil_ _ _, HBx.out⟩
  have hyes : rnOk s xs ns = true := by rw [rnOk, ← hle.out, q2, q0]; rfl
  have he := rn_yes hyes
  have hPP := permB_true.1 q2
  rw [hle.out] at hPP
  rw [he.1, he.2, hyes]
  go_enter Tryd.func17, Tryd.ntmps17
  go_wp2_with fail
  have b0 := (below_alloc1 w (.cells #[.int .i64 s, .slice A xs.length c] 25)).alloc (by simp) (.cells #[.int .i64 0, .slice none 0 0] 25)
  have x0 := (TBox.new w s (.slice A xs.length c) 25).below (below_alloc1 _ (.cells #[.int .i64 0, .slice none 0 0] 25))
  have t0 := BoxF.new (w.alloc (.cells #[.int .i64 s, .slice A xs.length c] 25)) 0 (.slice none 0 0) 25
  simp only [World.size_alloc] at t0
  generalize (w.alloc (.cells #[.int .i64 s, .slice A xs.length c] 25)).alloc (.cells #[.int .i64 0, .slice none 0 0] 25) = w0 at *
  have HX0 := Lib.hid x0
  have HB0 := Lib.hid b0
  have HT0 := Lib.hid t0
  clear x0 b0 t0
  have y0_0 := HX0.out.1
  have y1_0 := HX0.out.2
  go_wp2_with fail
  refine (implTourOk s _ xs _ (HR.out.below HB0.out)).mono ?_
  rintro e w1 ⟨rfl, hb⟩
  have HX1 := Lib.hid (HX0.out.below hb)
  have HT1 := Lib.hid (HT0.out.below hb)
  have HB1 := Lib.hid (Below.then HB0.out hb)
  clear hb HX0 HT0 HB0 y0_0 y1_0
  have y0_1 := HX1.out.1
  have y1_1 := HX1.out.2
  rw [q0]
  go_wp2_with fail
  refine (isOrder_any _ ns _ (HW.out.below HB1.out) hl).mono ?_
  rintro e w2 ⟨rfl, hb⟩
  have HX2 := Lib.hid (HX1.out.below hb)
  have HT2 := Lib.hid (HT1.out.below hb)
  have HB2 := Lib.hid (Below.then HB1.out hb)
  clear hb HX1 HT1 HB1 y0_1 y1_1
  have y0_2 := HX2.out.1
  have y1_2 := HX2.out.2
  rw [q2]
  go_wp2_with fail
  refine (renamed_any s _ xs ns _ _ (HR.out.below HB2.out) hp (HW.out.below HB2.out) hPP).mono ?_
  rintro e w4 ⟨sl', rfl, ho, hF, hb4⟩
  obtain ⟨Y, cy, rfl, -, -, -⟩ := ho.form
  have HT4 := HT2.out.below hb4
  have HB4 := Below.then HB2.out hb4
  have v0 := HT4.1.1
  have v1 := HT4.1.2
  have f0 := HT4.2 0
  have f1 := HT4.2 1
  clear hF
  have hgt := (HT4).gt
  have HOx := Lib.hid ((ho.kept (setCell_grown _ ⟨w.heap.size + 1, 0, none⟩ (.int .i64 s)) (own_ne (fun k hk => (ho.lt k hk).1) (by first | exact (HT1.out).gt | exact (HT0.out).gt | exact (HT2.out).gt | exact (HT3.out).gt | exact (HT4.out).gt | (simp; omega)))).kept (setCell_grown _ ⟨w.heap.size + 1, 1, none⟩ (.slice Y (rnL xs ns).length cy)) (own_ne (fun k hk => (ho.lt k hk).1) (by first | exact (HT1.out).gt | exact (HT0.out).gt | exact (HT2.out).gt | exact (HT3.out).gt | exact (HT4.out).gt | (simp; omega))))
  have HBx := Lib.hid ((HB4.setCell (p := ⟨w.heap.size + 1, 0, none⟩) (by simp) (.int .i64 s)).setCell (p := ⟨w.heap.size + 1, 1, none⟩) (by simp) (.slice Y (rnL xs ns).length cy))
  have R0 : Hid (((w4.setCell ⟨w.heap.size + 1, 0, none⟩ (.int .i64 s)).setCell ⟨w.heap.size + 1, 1, none⟩ (.slice Y (rnL xs ns).length cy)).cell? ⟨w.heap.size + 1, 0, none⟩ = some (.int .i64 s)) := (World.cell?_setCell_other _ _ _ _ (by simp)).trans (World.cell?_setCell_same _ _ _ v0)
  have R1 : Hid (((w4.setCell ⟨w.heap.size + 1, 0, none⟩ (.int .i64 s)).setCell ⟨w.heap.size + 1, 1, none⟩ (.slice Y (rnL xs ns).length cy)).cell? ⟨w.heap.size + 1, 1, none⟩ = some (.slice Y (rnL xs ns).length cy)) := World.cell?_setCell_same _ _ _ ((World.cell?_setCell_other _ _ _ _ (by simp)).trans v1)
  go_wp2
  have r0 := R0.out
  have r1 := R1.out
  refine bodyPost_ret (v := .tuple #[.agg #[.int .i64 s, .slice Y (rnL xs ns).length cy], .bool true]) (by simp only [results, Tryd.results17]; simp [go_sem, r0, r1]) rfl ⟨_, rfl, HOx.out.mono (by first | exact HB0.out.size | exact HB1.out.size | exact HB2.out.size | exact HB3.out.size | exact HB4.out.size), HBx.out⟩
end Go.Proofs.YthoodjjjklbggaaDoor

namespace Go.Proofs.YthoodjjjklbggaaDoor
open Go.RowKit Go.Sort
set_option maxRecDepth 100000
theorem rnR_len (s : Int) (xs ns : List Int) (h : rnOk s xs ns = true) : 1 ≤ s := by
  unfold rnOk at h
  rw [Bool.and_eq_true] at h
  exact (tourB_true.1 h.1).1.1
set_option maxHeartbeats 1000000 in
theorem implSym (s : Int) (sl : Value) (xs : List Int) (nv : Value) (ns : List Int) (w : World) (h : Rd w sl xs) (h2 : Rd w nv ns) (hl : ns.length ≤ 1099511627776) :
    Calls Tryd.prog 21 #[.agg #[.int .i64 s, sl], nv] w fun e w' => e = .returned (.bool (symB s xs ns)) ∧ Below w.heap.size w w' := by
  have HR := Lib.hid h
  have HW := Lib.hid h2
  obtain ⟨A, c, rfl, -, hcm, -⟩ := h
  unfold maxLen at hcm
  obtain ⟨B, d, rfl, -, -, -⟩ := h2
  rcases q0 : rnOk s xs ns with _ | _
  · go_enter Tryd.func21, Tryd.ntmps21
    go_wp2_with fail
    have b0 := below_alloc1 w (.cells #[.int .i64 s, .slice A xs.length c] 25)
    have x0 := TBox.new w s (.slice A xs.length c) 25
    generalize w.alloc (.cells #[.int .i64 s, .slice A xs.length c] 25) = w0 at *
    have HX0 := Lib.hid x0
    have HB0 := Lib.hid b0
    clear x0 b0
    have y0_0 := HX0.out.1
    have y1_0 := HX0.out.2
    go_wp2_with fail
    refine (implRename s _ xs _ ns _ (HR.out.below HB0.out) (HW.out.below HB0.out) hl).mono ?_
    rintro e w1 ⟨sl', rfl, ho, hb⟩
    obtain ⟨Y, cy, rfl, -, -, -⟩ := ho.form
    rw [q0]
    have HB1 := Lib.hid ((Below.then HB0.out hb).alloc (Nat.le_trans HB0.out.size hb.size) (.cells #[.int .i64 (rnS s xs ns), .slice Y (rnR s xs ns).length cy] 25))
    clear hb ho
    go_wp2
    go_ret
    exact ⟨ret_bool (by rw [symB, q0]; rfl), HB1.out⟩
  · have hs1 := rnR_len s xs ns q0
    obtain ⟨m, rfl⟩ := Int.eq_ofNat_of_zero_le (show 0 ≤ s by omega)
    go_enter Tryd.func21, Tryd.ntmps21
    go_wp2_with fail
    have b0 := below_alloc1 w (.cells #[.int .i64 m, .slice A xs.length c] 25)
    have x0 := TBox.new w m (.slice A xs.length c) 25
    generalize w.alloc (.cells #[.int .i64 m, .slice A xs.length c] 25) = w0 at *
    have HX0 := Lib.hid x0
    have HB0 := Lib.hid b0
    clear x0 b0
    have y0_0 := HX0.out.1
    have y1_0 := HX0.out.2
    go_wp2_with fail
    refine (implRename m _ xs _ ns _ (HR.out.below HB0.out) (HW.out.below HB0.out) hl).mono ?_
    rintro e w1 ⟨sl', rfl, ho, hb⟩
    rw [(rn_yes q0).1, (rn_yes q0).2] at *
    obtain ⟨Y, cy, rfl, hym, -, -⟩ := ho.form
    unfold maxLen at hym
    rw [q0]
    have HSY : Hid (symB (m : Int) xs ns = decide (xs = rnL xs ns)) := by unfold Hid; rw [symB, q0]; rfl
    generalize rnL xs ns = L at *
    have hX1 := HX0.out.below hb
    have bb := below_alloc1 w1 (.cells #[.int .i64 m, .slice Y L.length cy] 25)
    have hXW := hX1.below bb
    have yw0 := hXW.1
    have yw1 := hXW.2
    have HBW := Lib.hid (Below.then (Below.then HB0.out hb) bb)
    have HOW := Lib.hid (ho.below bb)
    clear hb ho hX1 bb hXW y0_0 y1_0
    go_wp2_with fail
    refine (same_any m (.slice A xs.length c) _ xs L _ (HR.out.below HBW.out) HOW.out.rd).mono ?_
    rintro e w2 ⟨rfl, hb2⟩
    have HB2 := Lib.hid (Below.then HBW.out hb2)
    clear hb2 yw0 yw1
    go_wp2
    go_ret
    exact ⟨ret_bool (by first | exact HSY.out.symm | (rw [HSY.out]; exact decide_eq_decide.2 ⟨Eq.symm, Eq.symm⟩)), HB2.out⟩
end Go.Proofs.YthoodjjjklbggaaDoor

namespace Go.Proofs.YthoodjjjklbggaaDoor
open Go.RowKit Go.Sort
set_option maxRecDepth 100000

/-- what is said of a world outlives new blocks and turns of blocks from B on -/
def AbN {β : Type} (B : Nat) (J : β → World → Prop) : Prop := ∀ s W W' row, J s W → W.grownBy W' row → (∀ r, row = some r → B ≤ r) → J s W'
/-- what a round leaves: all cells outside block cb -/
structure KpC (cb : Nat) (W W' : World) : Prop where
  size : W.heap.size ≤ W'.heap.size
  same : ∀ (i : Nat) (o : Obj), i ≠ cb → W.heap[i]? = some o → o.isCells = true → W'.heap[i]? = some o
theorem KpC.trans {cb : Nat} {A B C : World} (h : KpC cb A B) (k : KpC cb B C) : KpC cb A C := ⟨Nat.le_trans h.size k.size, fun i o hi ho hc => k.same i o hi (h.same i o hi ho hc) hc⟩
theorem KpC.of_grown {cb : Nat} {W W' : World} (h : W.grownBy W' (some cb)) : KpC cb W W' := ⟨h.size, fun i o hi ho _ => (h.block i (Array.getElem?_eq_some_iff.1 ho).1 (fun e => by injection e with e; exact hi e)).trans ho⟩
theorem KpC.of_put {cb : Nat} {W : World} {l : Nat} {o : Obj} (o' : Obj) (h : W.heap[l]? = some o) (ho : o.isCells = false) : KpC cb W (W.putObj l o') :=
  ⟨by simp, fun i p _ hp hc => (World.putObj_heap_other (fun e => by subst e; rw [h] at hp; injection hp with hp; subst hp; rw [ho] at hc; cases hc)).trans hp⟩
theorem KpC.block {cb : Nat} {W W' : World} (h : KpC cb W W') {p : Addr} {v : Value} (hp : p.block ≠ cb) (hv : W.cell? p = some v) : W'.heap[p.block]? = W.heap[p.block]? := by
  obtain ⟨o, ho, hc⟩ : ∃ o : Obj, W.heap[p.block]? = some o ∧ o.isCells = true := by
    unfold World.cell? at hv
    cases ho : W.heap[p.block]? with
    | none => simp [ho] at hv
    | some o => exact ⟨o, rfl, by cases o <;> simp_all [Obj.isCells]⟩
  rw [h.same _ _ hp ho hc, ho]
theorem KpC.cell {cb : Nat} {W W' : World} (h : KpC cb W W') {p : Addr} {v : Value} (hp : p.block ≠ cb) (hv : W.cell? p = some v) : W'.cell? p = some v :=
  (World.cell?_of_block (h.block hp hv)).trans hv
/-- the contract of an iterator that gives all, in this order, whatever the rounds do to block cb -/
def SeqAll {β : Type} (P : Program) (gf : Nat) (lb : Array Value) (cb : Nat) (En : World → β → Value → Prop) (all : List β) (w0 : World) : Prop :=
  ∀ (l : Nat) (J : List β → World → Prop) (W : World), Below w0.heap.size w0 W → AbN W.heap.size J →
    (∀ pre x v W1, J pre W1 → En W1 x v → x ∈ all → YieldAt Fence.wide 0 P l #[v] W1 fun e W' => e = .returned (.bool true) ∧ J (pre ++ [x]) W' ∧ KpC cb W1 W') →
    J [] W → Calls P gf (#[.func (.yield l) #[] #[]] ++ lb) W fun e W' => (∃ v, e = .returned v) ∧ J all W'
/-- how a round's body is left -/
def postA {β : Type} (cb : Nat) (I : List β → World → Prop) (xs : List β) (W : World) : Exit → Act → World → Prop
  | .normal, _, W' => W.grownBy W' (some cb) ∧ I xs W'
  | .ret, _, _ => False
  | .exit _, _, _ => False
  | .goto _, _, _ => False
  | .panic _, _, _ => False
  | .outgrown, _, _ => False
theorem AbN.putObj {β : Type} {B : Nat} {I : β → World → Prop} (h : AbN B I) {s : β} {W : World} {l : Nat} (o' : Obj) (hs : I s W) (hB : B ≤ l) : I s (W.putObj l o') :=
  h s W _ (some l) hs (grownBy_putObj' W l o') (fun r e => by cases e; exact hB)
theorem AbN.alloc {β : Type} {B : Nat} {I : β → World → Prop} (h : AbN B I) {s : β} {W : World} (o : Obj) (hs : I s W) : I s (W.alloc o) :=
  h s W _ none hs (World.grownBy_alloc W o none) (fun r e => by cases e)
theorem wp_rangeFunc_all {P : Program} {β : Type} {g : Operand} {ps : Array Tmp} {assign body : Code} {Q : Exit → Act → World → Prop} {a : Act} {w : World} {gf : Nat} {lb : Array Value} (hg : a.eval g = .func (.func gf) #[] lb) (eg : ∀ args w, (callFunc gf args).run P w = .ok (.enter gf args) w)
    {cb : Nat} {En : World → β → Value → Prop} {all : List β} {w0 : World} (hseq : SeqAll P gf lb cb En all w0) (hb0 : Below w0.heap.size w0 w) (hcb : cb < w.heap.size) (hps : ps.size = 1)
    (hEn : ∀ W l o o' x v, W.heap[l]? = some o → o.isCells = false → En W x v → En (W.putObj l o') x v)
    (I : List β → World → Prop) (hI : AbN w.heap.size I) (h0 : I [] w) (a₁ : Value → Act)
    (hassign : ∀ (l : Nat) (v : Value) (W : World) (K : Act → World → Prop), K (a₁ v) W →
      assign.wpIn (Fence.wide.inRound l) 0 P (Exit.then K (fun _ _ _ => False)) { tmps := (ps.zip #[v]).foldl (fun t (p, v) => t.setIfInBounds p v) a.tmps, defers := [] } W)
    (hbody : ∀ (l : Nat) (pre : List β) (x : β) (v : Value) (W : World), I pre W → En W x v → x ∈ all → w.heap.size ≤ W.heap.size → body.wpIn (Fence.wide.inRound l) 0 P (postA cb I (pre ++ [x]) W) (a₁ v) W)
    (hdone : ∀ (D : Nat) (W : World), w.heap.size ≤ D → I all W → W.heap[D]? = some (.deferred (some [])) → Q .normal { a with defers := { target := .collected D, args := #[] } :: a.defers } W) :
    (Code.rangeFunc g ps assign body).wp P Q a w := by
  refine (wpIn_wide (n := 1)).1 (wpIn_rangeFunc ?_)
  intro fn hfn
  rw [show Fence.wide.round = none from rfl]
  obtain ⟨rec, hrec⟩ : ∃ rec : LoopState → Option Code → Loop, rec = fun st pe => { state := st, pending := pe, fn, tmps := a.tmps, params := ps, assign, body, defers := w.heap.size } := ⟨_, rfl⟩
  obtain ⟨W1, hW1⟩ : ∃ W1, (w.alloc (.deferred (some []))).alloc (.loop (rec .ready none)) = W1 := ⟨_, rfl⟩
  have hsz1 : W1.heap.size = w.heap.size + 1 + 1 := by rw [← hW1]; simp
  have hL1 : W1.heap[w.heap.size + 1]? = some (.loop (rec .ready none)) := by
    rw [← hW1]
    have := World.alloc_heap_new (w.alloc (.deferred (some []))) (.loop (rec .ready none))
    rwa [World.size_alloc] at this
  have hK1 : W1.heap[w.heap.size]? = some (.deferred (some [])) := by
    rw [← hW1]; exact (Below.heap_alloc _ _ _ (by simp)).trans (World.alloc_heap_new w _)
  have hI1 : I [] W1 := by rw [← hW1]; exact hI.alloc _ (hI.alloc _ h0)
  have hb1 : Below w0.heap.size w0 W1 := by
    rw [← hW1]; exact hb0.trans ((((Below.refl _ w).alloc (Nat.le_refl _) _).alloc (by simp) _).mono hb0.size)
  refine ⟨w.heap.size + 1, [{ target := .collected w.heap.size, args := #[] }], W1, { target := .fn (.func gf) lb, args := #[.func (.yield (w.heap.size + 1)) #[] #[]] }, W1, gf,
    #[.func (.yield (w.heap.size + 1)) #[] #[]] ++ lb, W1, ?_, ?_, fun _ _ => trivial, ?_, (fun h => by cases h), callsIn_wide.2 ?_⟩
  · rw [← hW1, hrec]; exact run_enterLoop_outer _ _ _ _ _
  · simp only [resolve, hg]
    simp [go_sem]
  · simp [invoke, go_sem, eg]
  · refine (hseq (w.heap.size + 1)
      (fun pre W => I pre W ∧ W.heap[w.heap.size + 1]? = some (.loop (rec .ready none)) ∧ W.heap[w.heap.size]? = some (.deferred (some [])))
      W1 hb1 (fun s A B row hs hg' hr => ?_) ?_ ⟨hI1, hL1, hK1⟩).mono ?_
    · have k : ∀ (i : Nat) (o : Obj), i < W1.heap.size → A.heap[i]? = some o → B.heap[i]? = some o := fun i o hi ho =>
        (hg'.block i (Array.getElem?_eq_some_iff.1 ho).1 (fun e => by have := hr i e.symm; omega)).trans ho
      exact ⟨hI s A B row hs.1 hg' (fun r e => by have := hr r e; omega), k _ _ (by omega) hs.2.1, k _ _ (by omega) hs.2.2⟩
    · rintro pre x v W ⟨hi, hl, hk⟩ hen hmem
      have hlt : w.heap.size + 1 < W.heap.size := (Array.getElem?_eq_some_iff.1 hl).1
      have hy := run_yield (P := P) (args := #[v]) hl (by rw [hrec]; exact hps.symm)
      rw [hrec] at hy
      refine ⟨fn, _, assign, body, hy, roundIn_of_wpIn hfn (hassign _ v W _ ⟨_, run_beginRound hl (by rw [hrec]), ?_⟩)⟩
      have hl2 : (W.putObj (w.heap.size + 1) (.loop { rec .ready none with state := .busy })).heap[w.heap.size + 1]? = some (.loop { rec .ready none with state := .busy }) := World.putObj_heap_same hlt
      have hk2 : (W.putObj (w.heap.size + 1) (.loop { rec .ready none with state := .busy })).heap[w.heap.size]? = some (.deferred (some [])) := (World.putObj_heap_other (by omega)).trans hk
      refine wpIn_mono (hbody _ pre x v _ (hI.putObj _ hi (by omega)) (hEn _ _ _ _ _ _ hl rfl hen) hmem (by simp; omega)) ?_
      rintro e a3 W3 hp
      cases e with
      | normal =>
        obtain ⟨hg3, hi3⟩ := hp
        have hl3 : W3.heap[w.heap.size + 1]? = some (.loop { rec .ready none with state := .busy }) := (hg3.block _ (by simp; omega) (fun e => by injection e; omega)).trans hl2
        have hk3 : W3.heap[w.heap.size]? = some (.deferred (some [])) := (hg3.block _ (by simp; omega) (fun e => by injection e; omega)).trans hk2
        have hr := run_endRound (P := P) none hl3
        refine ⟨_, _, hr, rfl, ⟨hI.putObj _ hi3 (by omega), ?_, (World.putObj_heap_other (by omega)).trans hk3⟩, ?_⟩
        · rw [World.putObj_heap_same (Array.getElem?_eq_some_iff.1 hl3).1, hrec]; rfl
        · exact ((KpC.of_put _ hl rfl).trans (KpC.of_grown hg3)).trans (KpC.of_put _ hl3 rfl)
      | ret => exact hp.elim
      | exit id => exact hp.elim
      | goto t => exact hp.elim
      | panic ch => exact hp.elim
      | outgrown => exact hp.elim
    · rintro e W2 ⟨⟨v, rfl⟩, hi, hl, hk⟩
      exact ⟨none, _, by have := run_endLoop (P := P) hl (by rw [hrec]; simp); rw [hrec] at this; exact this, hdone _ _ (Nat.le_refl _) (hI.putObj _ hi (by omega)) ((World.putObj_heap_other (by omega)).trans hk)⟩

/-! a region of a round that draws: by what holds of it outside -/
theorem wpOpsIn_of {P : Program} {ops : Array Oper} {Q : Exit → Act → World → Prop} (l n : Nat) (hnd : ∀ (i : Nat) (o : Oper), ops[i]? = some o → ∀ c, o.op ≠ .defer c) (hQ : ¬ LetsOut Q) :
    ∀ (list : List Nat) (a : Act) (w : World), wpOps P ops Q list a w → wpOpsIn (Fence.wide.inRound l) n P ops Q list a w := by
  intro list
  induction list with
  | nil => intro a w h; exact h
  | cons i rest ih =>
    intro a w h
    simp only [wpOps] at h
    simp only [wpOpsIn]
    cases ho : ops[i]? with
    | none => simp only [ho] at h; exact ih _ _ h
    | some o =>
      simp only [ho] at h
      by_cases hw : Region.wanted o (yielded ops a.tmps) = true
      · rw [if_pos hw] at h
        show if Region.wanted o (yielded ops a.tmps) = true then _ else _
        rw [if_pos hw]
        rcases h with h | h
        · refine ⟨fun _ _ => trivial, ?_⟩
          rw [Oper.semAt_eq _ _ _ (hnd i o ho)]
          unfold Oper.wp Oper.upon at h
          unfold Oper.uponIn
          generalize (execOp a.eval o).run P w = r at *
          split at h
          · exact ih _ _ h
          · exact ih _ _ h
          · exact ih _ _ h
          · refine ⟨(fun h => by cases h), CallsIn.inRound l (callsIn_wide.2 (h.mono ?_))⟩
            intro e w' he
            cases e with
            | returned v => exact ih _ _ he
            | panicked chain => exact he
            | outgrown => exact he
          · refine ⟨(fun h => by cases h), fun c cs _ => ?_⟩
            obtain ⟨v, w'', hR, hs⟩ := h c cs
            exact ⟨v, w'', ih _ _ hR, stepsIn_wide.2 hs⟩
          · exact h
          · exact h.elim
        · exact absurd h.2 hQ
      · rw [if_neg hw] at h
        show if Region.wanted o (yielded ops a.tmps) = true then _ else _
        rw [if_neg hw]
        exact ⟨fun _ _ => trivial, ih _ _ h⟩
def noDefer (l : List Oper) : Bool := l.all fun o => match o.op with | .defer _ => false | _ => true
theorem noDefer_spec {l : List Oper} (h : noDefer l = true) : ∀ (i : Nat) (o : Oper), l.toArray[i]? = some o → ∀ c, o.op ≠ .defer c := by
  intro i o ho c e
  have hm : o ∈ l := by
    rw [List.getElem?_toArray] at ho
    exact List.mem_of_getElem? ho
  have := List.all_eq_true.1 h o hm
  rw [e] at this
  simp at this
theorem round_region {P : Program} {ops : Array Oper} {Q : Exit → Act → World → Prop} {id l n : Nat} {a : Act} {w : World} (hnd : ∀ (i : Nat) (o : Oper), ops[i]? = some o → ∀ c, o.op ≠ .defer c) (hQ : ¬ LetsOut Q) (hm : P.follows .mixedOrders = true)
    (h : wpAny P .any ops Q ops.size (Array.replicate ops.size false) a { w with drawn := w.drawn + 1 }) : (Code.region id ops true).wpIn (Fence.wide.inRound l) n P Q a w :=
  wpIn_region_draw fun t => by
    simp only [Region.schedule, hm, Bool.true_or, if_true]
    exact wpOpsIn_of l n hnd hQ _ _ _ (wpAny_sound ops.size t _ a _ h)
theorem round_region_below {P : Program} {Q : Exit → Act → World → Prop} {id l n : Nat} {a : Act} {w : World} {ol : List Oper} (hnd : ∀ (i : Nat) (o : Oper), ol.toArray[i]? = some o → ∀ c, o.op ≠ .defer c) (hQ : ¬ LetsOut Q) (hm : P.follows .mixedOrders = true) (hB : Region.lexB .any ol.toArray = true)
    (h : wpQuiet P ol.toArray (fun w' => ∃ p : Regrown, w' = grow (redrawn w p.d) p.os) (fun a' => ∀ w', Below w.heap.size w w' → Q .normal a' w') ol a) : (Code.region id ol.toArray true).wpIn (Fence.wide.inRound l) n P Q a w := by
  have hB' := hB
  simp only [Region.lexB, Bool.and_eq_true] at hB
  refine round_region hnd hQ hm (wpAny_of_quiet (C := fun w' => ∃ p : Regrown, w' = grow (redrawn w p.d) p.os) (Q := fun a' => ∀ w', (∃ p : Regrown, w' = grow (redrawn w p.d) p.os) → Q .normal a' w') (fun _ w' hw' h => h w' hw') _ _ _ _ ⟨⟨w.drawn + 1, #[]⟩, by rw [grow_empty]; rfl⟩ ?_)
  have e : (fun a' => ∀ w', (∃ p : Regrown, w' = grow (redrawn w p.d) p.os) → Q .normal a' w') = (fun a' => ∀ w', Below w.heap.size w w' → Q .normal a' w') := by
    funext a'
    exact propext ⟨fun h w' hb => h w' (regrown_of_below hb), fun h w' ⟨p, hp⟩ => by subst hp; exact h _ (below_regrown w p.d p.os)⟩
  rw [e]
  have := wpAnyQ_lex (C := fun w' => ∃ p : Regrown, w' = grow (redrawn w p.d) p.os) (md := .any) hB.1 ol.toArray.toList 0 (Array.replicate ol.toArray.size false) a (by simp) (by simpa using hB.2) (by simpa using h)
  simpa using this
theorem calls_of_wpM {P : Program} {f : FuncId} {fn : Func} {c : Code} {args : Array Value} {w : World} {R : Ending → World → Prop} (hf : P.funcs[f]? = some fn) (hb : fn.body = some c)
    (h : c.wp P (bodyPostM Fence.wide 3 P fn R) { tmps := args ++ Array.replicate (fn.ntmps - args.size) undef, defers := [] } w) : Calls P f args w R :=
  callsIn_wide.1 (callsIn_of_wp_marks (n := 3) hf hb trivial (wpIn_wide.2 h) rfl)
theorem rd_put {W : World} {l : Nat} {o o' : Obj} {v : Value} {xs : List Int} (h : W.heap[l]? = some o) (ho : o.isCells = false) (hr : Rd W v xs) : Rd (W.putObj l o') v xs := by
  obtain ⟨A, c, rfl, h1, h2, h3⟩ := hr
  refine ⟨A, c, rfl, h1, h2, fun h0 => ?_⟩
  obtain ⟨b, off, rfl, hb, hx⟩ := h3 h0
  exact ⟨b, off, rfl, by simp; exact hb, fun k hk => (KpC.of_put (cb := b + 1) o' h ho).cell (p := ⟨b, off + k, none⟩) (by show b ≠ b + 1; omega) (hx k hk)⟩
end Go.Proofs.YthoodjjjklbggaaDoor

namespace Go.Proofs.YthoodjjjklbggaaDoor
open Go.RowKit Go.Sort
set_option maxRecDepth 100000
theorem run_neq_slice_nil {P : Program} (w : World) (t e : TypeId) (a : Option Addr) (n c n' c' : Nat) (h : P.underlying t = some (.slice e)) :
    (binOp .neq t (.slice a n c) (.slice none n' c')).run P w = .ok (.bool (!a.isNone)) w := by
  simp only [binOp]
  simp [Op.equal, Op.maxDepth, Lib.run_equalIn_slice_nil w 9999 t e a n c n' c' h]
theorem grown_new {a b c : World} {row row' : Option Nat} (h : a.grownBy b row) (k : b.grownBy c row') (hn : ∀ g, row' = some g → a.heap.size ≤ g ∨ some g = row) : a.grownBy c row :=
  ⟨k.os.trans h.os, k.tape.trans h.tape, k.output.trans h.output, Nat.le_trans h.size k.size, fun i hi hne => (k.block i (Nat.lt_of_lt_of_le hi h.size) (fun e => by
    rcases hn i e.symm with h1 | h1
    · omega
    · exact hne h1)).trans (h.block i hi hne)⟩
theorem grown_below {a b : World} (h : Below a.heap.size a b) (row : Option Nat) : a.grownBy b row := ⟨h.os, h.tape, h.output, h.size, fun i hi _ => h.block i hi⟩
theorem below_of_grown {C a b : World} {row : Option Nat} (h : Below C.heap.size C a) (k : a.grownBy b row) (hr : ∀ g, row = some g → C.heap.size ≤ g) : Below C.heap.size C b := h.grown k h.size hr
theorem memN_at' {S n b : Nat} (h : b ∈ memN S n) : b < n := (mem_memN.1 h).1
theorem cell_new1 (w : World) (x : Value) (t : TypeId) : (w.alloc (.cells #[x] t)).cell? ⟨w.heap.size, 0, none⟩ = some x := by simp
theorem ne5 {W : World} {B g g5 q l c c5 : Nat} (hB : B < W.heap.size) (hg : B ≠ g) (hat : Value.slice (some ⟨g, 0, none⟩) q c = .slice (some ⟨g5, 0, none⟩) l c5 ∨ g5 = W.heap.size) : some B ≠ (Value.slice (some ⟨g5, 0, none⟩) (l + 1) c5).ownBlock := by
  intro h
  injection h with h
  have h : B = g5 := h
  rcases hat with e | e
  · injection e with e1 _ _
    injection e1 with e1
    injection e1 with e1 _ _
    omega
  · omega
def WantP (F : FuncId) (caps : Array Value) (want : List Nat → Bool) (k n : Nat) (wC : World) : Prop :=
  ∀ (way : List Nat) (v : Value) (W : World), way.length = k → (∀ x ∈ way, x < n) → Below wC.heap.size wC W → Rd W v (nI way) →
    Calls Tryd.prog F (#[v] ++ caps) W fun e w'' => e = .returned (.bool (want way)) ∧ Below W.heap.size W w''
end Go.Proofs.YthoodjjjklbggaaDoor

