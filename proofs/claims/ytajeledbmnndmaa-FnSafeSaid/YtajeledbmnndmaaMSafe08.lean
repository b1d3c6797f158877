/- Texts put together: Conn2, Rot, PtC, Lev, Parts, Revs, PartO, TrOn, BkF, LwS, TrC0. -/
import Derived.Test.YtajeledbmnndmaaMSafe07
import Derived.Test.YtajeledbmnndmaaMSafe04
import Derived.Deep.RegionLaw
import Derived.Test.YtajeledbmnndmaaMSafe01
import Derived.Deep.RegionHeld3
import Derived.Test.YtajeledbmnndmaaMSafe02
import Derived.Test.YtajeledbmnndmaaMSafe03
namespace Go.Proofs.Ytajeledbmnndmaa
open Go.RowKit

def specAt (n : Int) (xs : List Int) (j : Nat) : Prop := (1 ≤ xs.getD j 0 ∧ xs.getD j 0 ≤ n - 1) ∧ (0 < j → xs.getD (j - 1) 0 < xs.getD j 0) ∧ n - xs.getD j 0 ∉ xs.take j
theorem mem_take_getD {xs : List Int} {k : Nat} {x : Int} (hk : k ≤ xs.length) : x ∈ xs.take k ↔ ∃ j, j < k ∧ x = xs.getD j 0 := by
  rw [List.mem_iff_getElem?]
  constructor
  · rintro ⟨j, hj⟩
    rw [List.getElem?_take] at hj
    by_cases h : j < k
    · rw [if_pos h] at hj
      exact ⟨j, h, by rw [List.getD_eq_getElem?_getD, hj]; rfl⟩
    · rw [if_neg h] at hj; cases hj
  · rintro ⟨j, hj, rfl⟩
    refine ⟨j, ?_⟩
    rw [List.getElem?_take, if_pos hj, List.getD_eq_getElem?_getD, List.getElem?_eq_getElem (by omega)]
    rfl
theorem spec_mono {n : Int} {xs : List Int} {k : Nat} (h : ∀ j, j < k → specAt n xs j) : ∀ j i, i ≤ j → j < k → xs.getD i 0 ≤ xs.getD j 0 := by
  intro j
  induction j with
  | zero => intro i hi _; obtain rfl : i = 0 := by omega
            exact Int.le_refl _
  | succ j ih =>
    intro i hi hj
    by_cases e : i = j + 1
    · subst e; exact Int.le_refl _
    · have h1 := ih i (by omega) (by omega)
      have h2 := (h (j + 1) hj).2.1 (by omega)
      simp only [Nat.add_sub_cancel] at h2
      omega
theorem spec_all {n : Int} {xs : List Int} (hN : n = 1 ∨ n = 3 ∨ n = 5 ∨ n = 7) (hL : (xs.length : Int) = n / 2) (h : ∀ j, j < xs.length → specAt n xs j) : connP n xs := by
  refine ⟨hN, fun j hj => ⟨(h j hj).1, (h j hj).2.1, fun hm => ?_⟩, hL⟩
  have hm' : n - xs.getD j 0 ∈ xs.take xs.length := by rwa [List.take_length]
  obtain ⟨i, hi, e⟩ := (mem_take_getD (Nat.le_refl _)).1 hm'
  rcases Nat.lt_trichotomy i j with hij | hij | hij
  · exact (h j hj).2.2 ((mem_take_getD (by omega)).2 ⟨i, hij, e⟩)
  · subst hij; omega
  · exact (h i hi).2.2 ((mem_take_getD (by omega)).2 ⟨j, hij, by omega⟩)
theorem spec_set {n : Int} {xs : List Int} {k S l : Nat} (hl : xs.length = l) (hk : k < l) (hn7 : n ≤ 7) (hW : inB (xs[k]?.getD 0) 1 (n - 1) = true) (hlt : 0 < k → xs[k - 1]?.getD 0 < xs[k]?.getD 0)
    (hb : (bits BinOp.and IntKind.i64 ((S : Int) / 2 ^ (n - xs[k]?.getD 0).toNat) 1 == 1) = false)
    (HP : (∀ m : Nat, S.testBit m = decide ((m : Int) ∈ xs.take k)) ∧ ∀ j, j < k → specAt n xs j) (hS : S < 128) :
    ∃ S' : Nat, wrap64 ((S : Int) + wrap64 (2 ^ (xs[k]?.getD 0).toNat)) = S' ∧ S' < 128 ∧ (∀ m : Nat, S'.testBit m = decide ((m : Int) ∈ xs.take (k + 1))) ∧ ∀ j, j < k + 1 → specAt n xs j := by
  have hw := inB_true.1 hW
  obtain ⟨x, hx'⟩ : ∃ x : Nat, xs[k]?.getD 0 = x := ⟨(xs[k]?.getD 0).toNat, by omega⟩
  rw [hx'] at hw hb hlt ⊢
  have hx : xs.getD k 0 = x := by rw [List.getD_eq_getElem?_getD, hx']
  have hbit := hb
  rw [bit_test, HP.1] at hbit
  have hS2 : S < 2 ^ x := lt_of_testBit fun m hm => by
    rw [HP.1]
    simp only [decide_eq_false_iff_not]
    intro hmem
    obtain ⟨j, hj, e⟩ := (mem_take_getD (by omega)).1 hmem
    have h1 := spec_mono HP.2 (k - 1) j (by omega) (by omega)
    have h2 := hlt (by omega)
    rw [← List.getD_eq_getElem?_getD] at h2
    omega
  refine ⟨S + 2 ^ x, ?_, ?_, ?_, ?_⟩
  · exact add_shl S x (by omega) (by omega)
  · have : 2 ^ x ≤ 2 ^ 6 := Nat.pow_le_pow_right (by decide) (by omega)
    rw [show (2 : Nat) ^ 6 = 64 from rfl] at this
    omega
  · intro m
    rw [testBit_add_top S x m hS2, HP.1, List.take_succ_eq_append_getElem (by omega : k < xs.length)]
    have e : xs[k] = (x : Int) := by
      rw [← hx', List.getElem?_eq_getElem (by omega)]; rfl
    rw [e, Bool.eq_iff_iff]
    simp only [Bool.or_eq_true, decide_eq_true_eq, List.mem_append, List.mem_singleton]
    exact ⟨fun h => h.elim Or.inl (fun h => Or.inr (by omega)), fun h => h.elim Or.inl (fun h => Or.inr (by omega))⟩
  · intro j hj
    by_cases hjk : j < k
    · exact HP.2 j hjk
    · obtain rfl : j = k := by omega
      refine ⟨by rw [hx]; exact hw, fun h0 => ?_, ?_⟩
      · have := hlt h0
        rw [← List.getD_eq_getElem?_getD] at this
        rw [hx]; exact this
      · rw [hx]
        have e2 : (((n - x).toNat : Nat) : Int) = n - x := by omega
        rw [e2] at hbit
        simpa using hbit
theorem spec_no3 {n : Int} {xs : List Int} {k S l : Nat} (hl : xs.length = l) (hk : k < l) (hW : inB (xs[k]?.getD 0) 1 (n - 1) = true)
    (hb : (bits BinOp.and IntKind.i64 ((S : Int) / 2 ^ (n - xs[k]?.getD 0).toNat) 1 == 1) = true) (HP : ∀ m : Nat, S.testBit m = decide ((m : Int) ∈ xs.take k)) : connB n xs = false := by
  refine conn_no3 hl hk ?_
  have hw := inB_true.1 hW
  rw [bit_test, HP] at hb
  have e2 : (((n - xs[k]?.getD 0).toNat : Nat) : Int) = n - xs[k]?.getD 0 := by omega
  rw [e2] at hb
  simp only [decide_eq_true_eq] at hb
  simp only [containsI, decide_eq_true_eq]
  exact List.mem_of_mem_take hb

end Go.Proofs.Ytajeledbmnndmaa

namespace Go.Proofs.Ytajeledbmnndmaa
open Go.RowKit Go.Sort
set_option maxRecDepth 100000

def rotP (xs : List Int) (n a b : Nat) : Bool := containsI xs (((b : Int) - a + n) % n)
def rotT (xs : List Int) (n : Nat) : List Int := toL (rotP xs n) n
noncomputable def rtS (n : Int) (xs : List Int) : Int := if connB n xs = true then n else 0
noncomputable def rtL (n : Int) (xs : List Int) : List Int := if connB n xs = true then rotT xs n.toNat else []
theorem connB_iff {n : Int} {xs : List Int} : connB n xs = true ↔ connP n xs := by unfold connB; simp
theorem rtL_len (n : Int) (xs : List Int) : (rtL n xs).length ≤ 8 := by
  unfold rtL
  split
  · rename_i h
    have := (connB_iff.1 h).1
    rw [rotT, toL_len]; omega
  · simp
theorem rt_no {n : Int} {xs : List Int} (h : connB n xs = false) : rtS n xs = 0 ∧ rtL n xs = [] := by simp [rtS, rtL, h]
theorem rt_yes {n : Int} {xs : List Int} (h : connB n xs = true) : rtS n xs = n ∧ rtL n xs = rotT xs n.toNat := by simp [rtS, rtL, h]
end Go.Proofs.Ytajeledbmnndmaa

namespace Go.Proofs.Ytajeledbmnndmaa
open Go.RowKit Go.Sort
set_option maxRecDepth 100000
/-- the tour of a set's players -/
def ptL (xs : List Int) (S : Nat) : List Int := toL (fun a b => bt xs ((memN S 8).getD a 0) ((memN S 8).getD b 0)) (memN S 8).length
theorem ptL_len (xs : List Int) (S : Nat) : (ptL xs S).length = (memN S 8).length := toL_len _ _
end Go.Proofs.Ytajeledbmnndmaa

namespace Go.Proofs.Ytajeledbmnndmaa
open Go.RowKit Go.Sort
set_option maxRecDepth 100000
def lvHit (xs : List Int) (n r : Nat) (f : Nat → Int) (a : Nat) : Bool := (memN (winsN xs a) n).any fun c => f c == (r : Int)
def lv (xs : List Int) (n b : Nat) : Nat → Nat → Int
  | 0, a => if a = b then 0 else -1
  | r + 1, a => if lv xs n b r a < 0 ∧ lvHit xs n r (lv xs n b r) a = true then (r : Int) + 1 else lv xs n b r a
theorem lv_succ (xs : List Int) (n b r a : Nat) : lv xs n b (r + 1) a = if lv xs n b r a < 0 ∧ lvHit xs n r (lv xs n b r) a = true then (r : Int) + 1 else lv xs n b r a := rfl
theorem lv_bd (xs : List Int) (n b : Nat) : ∀ r a, -1 ≤ lv xs n b r a ∧ lv xs n b r a ≤ r := by
  intro r
  induction r with
  | zero => intro a; simp only [lv]; split <;> omega
  | succ r ih => intro a; have := ih a; rw [lv_succ]; split <;> omega
theorem lv_keep {xs : List Int} {n b r a : Nat} (h : 0 ≤ lv xs n b r a) : ∀ d, lv xs n b (r + d) a = lv xs n b r a := by
  intro d
  induction d with
  | zero => rfl
  | succ d ih => rw [← Nat.add_assoc, lv_succ, if_neg (by rw [ih]; omega), ih]
theorem lv_keep' {xs : List Int} {n b r r' a : Nat} (h : 0 ≤ lv xs n b r a) (hr : r ≤ r') : lv xs n b r' a = lv xs n b r a := by
  obtain ⟨d, rfl⟩ := Nat.exists_eq_add_of_le hr
  exact lv_keep h d
theorem lv_at {xs : List Int} {n b : Nat} {d : Nat} : ∀ {r a : Nat}, lv xs n b r a = (d : Int) → d ≤ r ∧ lv xs n b d a = (d : Int) := by
  intro r
  induction r with
  | zero =>
    intro a h
    have := lv_bd xs n b 0 a
    have hd : d = 0 := by omega
    subst hd
    exact ⟨Nat.le_refl _, h⟩
  | succ r ih =>
    intro a h
    by_cases hc : lv xs n b r a < 0 ∧ lvHit xs n r (lv xs n b r) a = true
    · rw [lv_succ, if_pos hc] at h
      have hd : d = r + 1 := by omega
      subst hd
      exact ⟨Nat.le_refl _, by rw [lv_succ, if_pos hc]; omega⟩
    · rw [lv_succ, if_neg hc] at h
      have := ih h
      exact ⟨by omega, this.2⟩
theorem lv_zero {xs : List Int} {n b r a : Nat} (h : lv xs n b r a = 0) : a = b := by
  have := (lv_at (d := 0) h).2
  simp only [lv] at this
  split at this
  · assumption
  · omega
theorem lv_b (xs : List Int) (n b r : Nat) : lv xs n b r b = 0 := by
  have h0 : lv xs n b 0 b = 0 := by simp [lv]
  rw [lv_keep' (r := 0) (by rw [h0]; omega) (by omega), h0]
theorem lvHit_iff {xs : List Int} {n r : Nat} {f : Nat → Int} {a : Nat} : lvHit xs n r f a = true ↔ ∃ c, c ∈ memN (winsN xs a) n ∧ f c = (r : Int) := by
  unfold lvHit
  rw [List.any_eq_true]
  simp
theorem lv_pred {xs : List Int} {n b r a d : Nat} (h : lv xs n b r a = ((d + 1 : Nat) : Int)) : ∃ c, c ∈ memN (winsN xs a) n ∧ lv xs n b r c = (d : Int) := by
  obtain ⟨h1, h2⟩ := lv_at h
  rw [lv_succ] at h2
  by_cases hc : lv xs n b d a < 0 ∧ lvHit xs n d (lv xs n b d) a = true
  · obtain ⟨c, hm, hv⟩ := lvHit_iff.1 hc.2
    exact ⟨c, hm, by rw [lv_keep' (r := d) (by omega) (by omega)]; exact hv⟩
  · rw [if_neg hc] at h2
    have := (lv_bd xs n b d a).2
    omega
theorem lv_step {xs : List Int} {n b a c d : Nat} (hc : c ∈ memN (winsN xs a) n) (h : lv xs n b n c = (d : Int)) (hd : d < n) : 0 ≤ lv xs n b n a ∧ lv xs n b n a ≤ d + 1 := by
  have h2 := (lv_at h).2
  have h3 : 0 ≤ lv xs n b (d + 1) a ∧ lv xs n b (d + 1) a ≤ d + 1 := by
    have hb := lv_bd xs n b (d + 1) a
    refine ⟨?_, by omega⟩
    rw [lv_succ]
    by_cases hl : lv xs n b d a < 0
    · rw [if_pos ⟨hl, lvHit_iff.2 ⟨c, hc, h2⟩⟩]; omega
    · rw [if_neg (fun h => hl h.1)]; omega
  rw [lv_keep' (r := d + 1) h3.1 (by omega)]
  exact h3
theorem lv_chain {xs : List Int} {n b : Nat} : ∀ (d a : Nat), a < n → lv xs n b n a = (d : Int) → ∃ l : List Nat, l.length = d + 1 ∧ l.Nodup ∧ ∀ x ∈ l, x < n ∧ lv xs n b n x ≤ d := by
  intro d
  induction d with
  | zero => intro a ha h; exact ⟨[a], rfl, by simp, fun x hx => by simp at hx; subst hx; exact ⟨ha, by omega⟩⟩
  | succ d ih =>
    intro a ha h
    obtain ⟨c, hc, hv⟩ := lv_pred h
    obtain ⟨l, h1, h2, h3⟩ := ih c (mem_memN.1 hc).1 hv
    refine ⟨a :: l, by simp [h1], ?_, fun x hx => ?_⟩
    · rw [List.nodup_cons]
      exact ⟨fun hm => by have := (h3 a hm).2; omega, h2⟩
    · rw [List.mem_cons] at hx
      rcases hx with rfl | hx
      · exact ⟨ha, by omega⟩
      · have := h3 x hx; exact ⟨this.1, by omega⟩
theorem lv_top {xs : List Int} {n b a d : Nat} (ha : a < n) (h : lv xs n b n a = (d : Int)) : d < n := by
  obtain ⟨l, h1, h2, h3⟩ := lv_chain d a ha h
  have h4 := nodup_le n (nI l) (List.Pairwise.map _ (fun a b hab h => hab (by omega)) h2) (fun y hy => by
    unfold nI at hy
    rw [List.mem_map] at hy
    obtain ⟨x, hx, rfl⟩ := hy
    have := (h3 x hx).1
    omega)
  rw [nI_len] at h4
  omega
def nxt (xs : List Int) (n b : Nat) (m a : Nat) : Nat := ((memN (winsN xs a) n).find? fun c => lv xs n b n c == (m : Int)).getD 0
def gw (xs : List Int) (n b : Nat) : Nat → Nat → List Nat
  | 0, _ => []
  | m + 1, a => nxt xs n b m a :: gw xs n b m (nxt xs n b m a)
theorem gw_len (xs : List Int) (n b : Nat) : ∀ m a, (gw xs n b m a).length = m := by
  intro m
  induction m with
  | zero => intro a; rfl
  | succ m ih => intro a; simp [gw, ih]
def wB (b : Nat) (way : List Nat) : Bool := lastN way == b
theorem lastN_snoc (l : List Nat) (b : Nat) : lastN (l ++ [b]) = b := by simp [lastN]
theorem dfs_lv {xs : List Int} {n b : Nat} : ∀ m way L, m < n → way ≠ [] → dfs xs n (wB b) m way = some L → 0 ≤ lv xs n b n (lastN way) ∧ lv xs n b n (lastN way) ≤ m := by
  intro m
  induction m with
  | zero =>
    intro way L hm hw h
    rw [dfs] at h
    split at h
    · rename_i hq
      have : lastN way = b := by simpa [wB] using hq
      rw [this, lv_b]; omega
    · cases h
  | succ m ih =>
    intro way L hm hw h
    rw [dfs] at h
    obtain ⟨c, hc, hs⟩ := List.exists_of_findSome?_eq_some h
    have h2 := ih (way ++ [c]) L (by omega) (by simp) hs
    rw [lastN_snoc] at h2
    obtain ⟨e, he⟩ := Int.eq_ofNat_of_zero_le h2.1
    have h3 := lv_step ((List.mem_filter.1 hc).1) he (by omega)
    omega
theorem find_some {β : Type} {l : List Nat} {p : Nat → Bool} {F : Nat → Option β} {c : Nat} {y : β} (hf : l.find? p = some c) (h : ∀ x ∈ l, p x = false → F x = none) (hy : F c = some y) : l.findSome? F = some y := by
  induction l with
  | nil => cases hf
  | cons x l ih =>
    rcases q : p x with _ | _
    · rw [List.find?_cons, q] at hf
      rw [List.findSome?_cons, h x (by simp) q]
      exact ih hf (fun z hz => h z (by simp [hz]))
    · rw [List.find?_cons, q] at hf
      injection hf with hf
      subst hf
      rw [List.findSome?_cons, hy]
theorem nxt_find {xs : List Int} {n b m a : Nat} (h : lv xs n b n a = ((m + 1 : Nat) : Int)) : (memN (winsN xs a) n).find? (fun c => lv xs n b n c == (m : Int)) = some (nxt xs n b m a) ∧ nxt xs n b m a ∈ memN (winsN xs a) n ∧ lv xs n b n (nxt xs n b m a) = (m : Int) := by
  obtain ⟨c, hc, hv⟩ := lv_pred h
  rcases q : (memN (winsN xs a) n).find? (fun c => lv xs n b n c == (m : Int)) with _ | c0
  · rw [List.find?_eq_none] at q
    exact absurd (by simpa using hv) (q c hc)
  · have e : nxt xs n b m a = c0 := by unfold nxt; rw [q]; rfl
    have h1 := List.find?_some q
    have h2 := List.mem_of_find?_eq_some q
    rw [e]
    exact ⟨rfl, h2, by simpa using h1⟩
theorem dfs_gw {xs : List Int} {n b : Nat} : ∀ m way, m < n → way ≠ [] → lv xs n b n (lastN way) = (m : Int) → (∀ x ∈ way, (m : Int) ≤ lv xs n b n x) → dfs xs n (wB b) m way = some (way ++ gw xs n b m (lastN way)) := by
  intro m
  induction m with
  | zero =>
    intro way hm hw h ha
    have : lastN way = b := lv_zero h
    rw [dfs, if_pos (by simp [wB, this])]
    simp [gw]
  | succ m ih =>
    intro way hm hw h ha
    obtain ⟨hf, hmem, hv⟩ := nxt_find h
    have e : dfs xs n (wB b) (m + 1) way = (memN (winsN xs (lastN way)) n).findSome? fun c => if (!way.contains c) = true then dfs xs n (wB b) m (way ++ [c]) else none := by
      have : ∀ (l : List Nat) (p : Nat → Bool) (F : Nat → Option (List Nat)), (l.filter p).findSome? F = l.findSome? fun b => if p b = true then F b else none := by
        intro l p F
        induction l with
        | nil => rfl
        | cons x l ih =>
          rcases q : p x with _ | _
          · rw [List.filter_cons_of_neg (by simp [q]), ih, List.findSome?_cons]; simp [q]
          · rw [List.filter_cons_of_pos q, List.findSome?_cons, List.findSome?_cons, ih]; simp [q]
      exact this _ _ _
    rw [e]
    refine find_some hf (fun c hc hp => ?_) ?_
    · split
      · rcases q : dfs xs n (wB b) m (way ++ [c]) with _ | L
        · rfl
        · have h1 := dfs_lv m (way ++ [c]) L (by omega) (by simp) q
          rw [lastN_snoc] at h1
          obtain ⟨d, hd⟩ := Int.eq_ofNat_of_zero_le h1.1
          have h2 := lv_step hc hd (by omega)
          have : ¬ lv xs n b n c = (m : Int) := by simpa using hp
          omega
      · rfl
    · have hni : ¬ nxt xs n b m (lastN way) ∈ way := fun hm => by have := ha _ hm; omega
      rw [if_pos (by simpa using hni), ih (way ++ [nxt xs n b m (lastN way)]) (by omega) (by simp) (by rw [lastN_snoc]; exact hv) (fun x hx => by
        rw [List.mem_append, List.mem_singleton] at hx
        rcases hx with hx | rfl
        · have := ha x hx; omega
        · omega), lastN_snoc, gw, List.append_assoc]
      rfl
noncomputable def wbOk (s : Int) (xs : List Int) (a b : Int) : Bool := tourB s xs && inB a 0 (s - 1) && inB b 0 (s - 1)
noncomputable def wbO (s : Int) (xs : List Int) (a b : Int) : Option (List Nat) :=
  if wbOk s xs a b = true then (if lv xs xs.length b.toNat xs.length a.toNat < 0 then none else some (a.toNat :: gw xs xs.length b.toNat (lv xs xs.length b.toNat xs.length a.toNat).toNat a.toNat)) else none
noncomputable def wbL (s : Int) (xs : List Int) (a b : Int) : List Int := nI ((wbO s xs a b).getD [])
theorem wbO_no {s : Int} {xs : List Int} {a b : Int} (h : wbOk s xs a b = false) : wbO s xs a b = none := by simp [wbO, h]
theorem wbL_len (s : Int) (xs : List Int) (a b : Int) : (wbL s xs a b).length ≤ 16 := by
  unfold wbL
  rw [nI_len]
  unfold wbO
  split
  · rename_i h
    unfold wbOk at h
    rw [Bool.and_eq_true, Bool.and_eq_true] at h
    have hp := tourB_true.1 h.1.1
    have h2 := hp.1
    have h3 := hp.2.1
    split
    · simp
    · have := (lv_bd xs xs.length b.toNat xs.length a.toNat).2
      simp [gw_len]
      omega
  · simp
/-- the first length that leads there -/
theorem wb_hit {xs : List Int} {n a b k : Nat} {L : List Nat} (hk : k < n) (h0 : ∀ j, j < k → dfs xs n (wB b) j [a] = none) (h : dfs xs n (wB b) k [a] = some L) : lv xs n b n a = (k : Int) ∧ L = a :: gw xs n b k a := by
  have h1 := dfs_lv k [a] L hk (by simp) h
  have e : lastN [a] = a := rfl
  rw [e] at h1
  obtain ⟨d, hd⟩ := Int.eq_ofNat_of_zero_le h1.1
  have h2 := dfs_gw d [a] (by omega) (by simp) hd (fun x hx => by simp at hx; subst hx; omega)
  have hdk : d = k := by
    rcases Nat.lt_or_ge d k with h3 | h3
    · rw [h0 d h3] at h2; cases h2
    · omega
  subst hdk
  rw [h] at h2
  injection h2 with h2
  exact ⟨hd, h2⟩
theorem wb_miss {xs : List Int} {n a b : Nat} (ha : a < n) (h0 : ∀ j, j < n → dfs xs n (wB b) j [a] = none) : lv xs n b n a < 0 := by
  rcases Int.lt_or_le (lv xs n b n a) 0 with h | h
  · exact h
  · obtain ⟨d, hd⟩ := Int.eq_ofNat_of_zero_le h
    have h1 := lv_top ha hd
    have h2 := dfs_gw d [a] h1 (by simp) hd (fun x hx => by simp at hx; subst hx; omega)
    rw [h0 d h1] at h2
    cases h2
end Go.Proofs.Ytajeledbmnndmaa

namespace Go.Proofs.Ytajeledbmnndmaa
open Go.RowKit Go.Sort
set_option maxRecDepth 100000
def bsC (xs : List Int) (x y : Int) : Int := (scK xs y.toNat : Int) - scK xs x.toNat
def ordS (xs : List Int) : List Int := sortR (fun x y => decide (bsC xs x y < 0)) (idxL xs.length)
theorem ordS_len (xs : List Int) : (ordS xs).length = xs.length := by
  have := sortR_len (fun x y => decide (bsC xs x y < 0)) (idxL xs.length) (Nat.le_refl _)
  rw [List.take_length, idxL_len] at this
  exact this
theorem ins_mem (bef : Int → Int → Bool) (S : List Int) (x y : Int) (h : y = x ∨ y ∈ S) : y ∈ insR bef S x := by
  unfold insR
  rw [List.mem_append, List.mem_cons]
  rcases h with h | h
  · exact .inr (.inl h)
  · rw [← List.take_append_drop (posR bef x S S.length) S, List.mem_append] at h
    exact h.imp id .inr
theorem sort_mem (bef : Int → Int → Bool) (L : List Int) : ∀ i, i ≤ L.length → ∀ y, y ∈ L.take i → y ∈ sortR bef (L.take i) := by
  intro i
  induction i with
  | zero => intro _ y h; simp at h
  | succ i ih =>
    intro hi y h
    rw [sortR_succ bef L (by omega)]
    have e : L.take (i + 1) = L.take i ++ [L.getD i 0] := by
      rw [List.take_succ_eq_append_getElem (by omega), show L.getD i 0 = L[i] by simp [show i < L.length by omega]]
    rw [e, List.mem_append, List.mem_singleton] at h
    refine ins_mem _ _ _ _ ?_
    rcases h with h | h
    · exact .inr (ih (by omega) y h)
    · exact .inl h
theorem posR_after {bef : Int → Int → Bool} {x : Int} {S : List Int} : ∀ {k}, k ≤ S.length → ∀ j, posR bef x S k ≤ j → j < k → bef x (S.getD j 0) = true := by
  intro k
  induction k with
  | zero => intro _ j _ h; omega
  | succ k ih =>
    intro hk j hj hjk
    rcases q : bef x (S.getD k 0) with _ | _
    · rw [posR_stop q] at hj; omega
    · rw [posR_go q] at hj
      by_cases e : j = k
      · subst e; exact q
      · exact ih (by omega) j hj (by omega)
theorem posR_before {bef : Int → Int → Bool} {x : Int} {S : List Int} : ∀ {k}, k ≤ S.length → 0 < posR bef x S k → bef x (S.getD (posR bef x S k - 1) 0) = false := by
  intro k
  induction k with
  | zero => intro _ h; simp [posR] at h
  | succ k ih =>
    intro hk h
    rcases q : bef x (S.getD k 0) with _ | _
    · rw [posR_stop q, Nat.add_sub_cancel]; exact q
    · rw [posR_go q] at h ⊢; exact ih (by omega) h
/-- the greater keys stand first -/
theorem ins_sorted {key : Int → Int} {bef : Int → Int → Bool} (hb : ∀ x y, bef x y = decide (key y < key x)) {S : List Int} {x : Int} (hS : S.Pairwise fun a b => key b ≤ key a) : (insR bef S x).Pairwise fun a b => key b ≤ key a := by
  unfold insR
  have hle := posR_le bef x S S.length
  have hS2 := hS
  rw [← List.take_append_drop (posR bef x S S.length) S, List.pairwise_append] at hS2
  have h1 : ∀ y ∈ S.drop (posR bef x S S.length), key y ≤ key x := fun y hy => by
    obtain ⟨j, hj, rfl⟩ := List.getElem_of_mem hy
    rw [List.length_drop] at hj
    have := posR_after (bef := bef) (x := x) (Nat.le_refl S.length) (posR bef x S S.length + j) (by omega) (by omega)
    rw [hb] at this
    have h2 := of_decide_eq_true this
    rw [List.getElem_drop]
    rw [show S.getD (posR bef x S S.length + j) 0 = S[posR bef x S S.length + j] by simp [show posR bef x S S.length + j < S.length by omega]] at h2
    omega
  have h2 : ∀ y ∈ S.take (posR bef x S S.length), key x ≤ key y := fun y hy => by
    rcases Nat.eq_zero_or_pos (posR bef x S S.length) with h0 | h0
    · rw [h0] at hy; simp at hy
    · have hp := posR_before (Nat.le_refl S.length) h0
      rw [hb] at hp
      have h3 := of_decide_eq_false hp
      have hlt : posR bef x S S.length - 1 < S.length := by omega
      rw [show S.getD (posR bef x S S.length - 1) 0 = S[posR bef x S S.length - 1] by simp [hlt]] at h3
      obtain ⟨j, hj, rfl⟩ := List.getElem_of_mem hy
      rw [List.length_take] at hj
      rw [List.getElem_take]
      by_cases e : j = posR bef x S S.length - 1
      · have : S[j]'(by omega) = S[posR bef x S S.length - 1] := by simp [e]
        rw [this]; omega
      · have := List.pairwise_iff_getElem.1 hS j (posR bef x S S.length - 1) (by omega) hlt (by omega)
        omega
  rw [List.pairwise_append, List.pairwise_cons]
  exact ⟨hS2.1, ⟨h1, hS2.2.1⟩, fun a ha b hb => by
    rw [List.mem_cons] at hb
    rcases hb with rfl | hb
    · exact h2 a ha
    · exact hS2.2.2 a ha b hb⟩
theorem sort_sorted {key : Int → Int} {bef : Int → Int → Bool} (hb : ∀ x y, bef x y = decide (key y < key x)) (L : List Int) : ∀ i, i ≤ L.length → (sortR bef (L.take i)).Pairwise fun a b => key b ≤ key a := by
  intro i
  induction i with
  | zero => intro _; simp [sortR]
  | succ i ih => intro hi; rw [sortR_succ bef L (by omega)]; exact ins_sorted hb (ih (by omega))
theorem ordS_facts (xs : List Int) : (∀ i, i < xs.length → ∃ a : Nat, a < xs.length ∧ (ordS xs).getD i 0 = a) ∧ (∀ a, a < xs.length → ∃ i, i < xs.length ∧ (ordS xs).getD i 0 = (a : Int)) ∧
    (∀ i j a b : Nat, i < j → j < xs.length → (ordS xs).getD i 0 = (a : Int) → (ordS xs).getD j 0 = (b : Int) → scK xs b ≤ scK xs a) := by
  have hl := ordS_len xs
  have hm : ∀ y, y ∈ idxL xs.length → y ∈ ordS xs := fun y hy => by
    have := sort_mem (fun x y => decide (bsC xs x y < 0)) (idxL xs.length) (idxL xs.length).length (Nat.le_refl _) y (by rwa [List.take_length])
    rwa [List.take_length] at this
  have hs : (ordS xs).Pairwise fun a b => (scK xs b.toNat : Int) ≤ scK xs a.toNat := by
    have := sort_sorted (key := fun a => (scK xs a.toNat : Int)) (bef := fun x y => decide (bsC xs x y < 0)) (fun x y => by rw [decide_eq_decide]; unfold bsC; omega) (idxL xs.length) (idxL xs.length).length (Nat.le_refl _)
    rwa [List.take_length] at this
  refine ⟨fun i hi => ?_, fun a ha => ?_, fun i j a b hij hj hia hjb => ?_⟩
  · have h1 : (ordS xs).getD i 0 ∈ ordS xs := getD_memI (by omega)
    have h2 : (ordS xs).getD i 0 ∈ idxL xs.length := mem_sortR (i := (idxL xs.length).length) (Nat.le_refl _) (by rw [List.take_length]; exact h1)
    exact idxL_mem h2
  · have h1 := hm (a : Int) (by unfold idxL; rw [List.mem_map]; exact ⟨a, List.mem_range.2 ha, rfl⟩)
    obtain ⟨i, hi, he⟩ := List.getElem_of_mem h1
    exact ⟨i, by omega, by simp [hi, he]⟩
  · have := List.pairwise_iff_getElem.1 hs i j (by omega) (by omega) hij
    rw [show (ordS xs)[i] = (a : Int) by rw [← hia]; simp [show i < (ordS xs).length by omega], show (ordS xs)[j] = (b : Int) by rw [← hjb]; simp [show j < (ordS xs).length by omega], Int.toNat_natCast, Int.toNat_natCast] at this
    omega
theorem scK_le (xs : List Int) (a : Nat) (h : winsN xs a < 256) : scK xs a ≤ 8 := by unfold scK; rw [pop_mem h]; exact memN_len _ _
set_option maxHeartbeats 1000000 in
theorem bs1_any (n : Nat) (sl : Value) (xs : List Int) (hp : tourP n xs) (a b gt : Nat) (W : World) (hr : Rd W sl xs) (ht : TBox W gt n sl) (ha : a < xs.length) (hb : b < xs.length) :
    Calls Try.prog 146 #[.int .i64 a, .int .i64 b, .pointer (some ⟨gt, 0, none⟩)] W fun e w' => e = .returned (.int .i64 (bsC xs a b)) ∧ Below W.heap.size W w' := by
  have k1 := quiet_below (w := W) (fun W' hW => score_any n sl xs b W' (hr.below hW) hp hb)
  have k2 := quiet_below (w := W) (fun W' hW => score_any n sl xs a W' (hr.below hW) hp ha)
  have h1 := scK_le xs a (tour_wins hp ha).2.2
  have h2 := scK_le xs b (tour_wins hp hb).2.2
  have hF : Hid (bsC xs a b = (scK xs b : Int) - scK xs a) := by unfold Hid bsC; rw [Int.toNat_natCast, Int.toNat_natCast]
  unfold scK at h1 h2 hF
  rw [hF.out]
  generalize popN 8 (winsN xs a) = sa at *
  generalize popN 8 (winsN xs b) = sb at *
  have hw : IntKind.i64.wrap ((sb : Int) - sa) = (sb : Int) - sa := by rw [IntKind.wrap_i64]; omega
  have d1 := cell_regrown ht.1
  have d2 := cell_regrown ht.2
  clear hr ht hp
  go_enter Try.func146, Try.ntmps146
  go_wp2_with fail
  refine wp_region_below (by kernel_rfl) (by kernel_rfl) ?_
  repeat (go_big_quiet_step (first | (with_reducible exact k1 _ _) | (with_reducible exact k2 _ _)))
  refine wpQuiet_nil ?_
  intro wq hbq0
  have HBQ := Lib.hid hbq0
  clear hbq0 d1 d2 k1 k2
  go_wp2
  go_ret
  exact ⟨ret_int (by first | rfl | exact hw | simp [hw]), HBQ.out⟩
set_option maxHeartbeats 2000000 in
theorem byScore_any (n : Nat) (sl : Value) (xs : List Int) (hp : tourP n xs) (w : World) (h : Rd w sl xs) :
    Calls Try.prog 133 #[.agg #[.int .i64 n, sl]] w fun e w' => ∃ v', e = .returned v' ∧ Own w' w.heap.size v' (ordS xs) ∧ Below w.heap.size w w' := by
  have hs := hp.1
  have hsl := hp.2.1
  have HR := Lib.hid h
  have HP := Lib.hid hp
  have hn : xs.length = n := by omega
  have HN := Lib.hid hn
  have hF : Hid (ordS xs = sortR (fun x y => decide (bsC xs x y < 0)) (idxL n)) := by unfold Hid ordS; rw [hn]
  have hE : Enters 146 := fun args W => by kernel_rfl
  clear h hp hn
  go_enter Try.func133, Try.ntmps133
  go_wp2_with fail
  have b0 := below_alloc1 w (.cells #[.int .i64 n, sl] 28)
  have x0 := TBox.new w n (sl) 28
  generalize w.alloc (.cells #[.int .i64 n, sl] 28) = w0 at *
  have HX0 := Lib.hid x0
  have HB0 := Lib.hid b0
  clear x0 b0
  have y0_0 := HX0.out.1
  have y1_0 := HX0.out.2
  go_wp2_with fail
  refine (indices_any n (by omega) w0 (by omega)).mono ?_
  rintro e w4 ⟨rfl, ho4, hb4⟩
  have HO4 := Lib.hid ho4
  have HB4 := Lib.hid hb4
  clear ho4 hb4
  go_wp2_with fail
  refine (sortStable_any 146 #[.pointer (some ⟨w.heap.size, 0, none⟩)] hE (bsC xs) (idxL n) n w0.heap.size w0.heap.size n w4 (idxL_len n) (by omega) (by omega) (Nat.le_refl _) (by omega) HB4.out.size HO4.out (fun x hx y hy W hW => by
    obtain ⟨a, ha, rfl⟩ := idxL_mem hx
    obtain ⟨b, hb, rfl⟩ := idxL_mem hy
    have hWW : Below w0.heap.size w0 W := HB4.out.trans hW
    exact bs1_any n sl xs HP.out a b w.heap.size W (HR.out.below (Below.then HB0.out hWW)) (HX0.out.below hWW) (by rw [HN.out]; exact ha) (by rw [HN.out]; exact hb))).mono ?_
  rintro e w5 ⟨rfl, ho5, hb5⟩
  have HO5 := Lib.hid ho5
  have HB5 := Lib.hid (HB4.out.trans hb5)
  clear ho5 hb5
  go_wp2
  go_ret
  exact ⟨_, rfl, by rw [hF.out]; exact HO5.out.mono HB0.out.size, Below.then HB0.out HB5.out⟩
end Go.Proofs.Ytajeledbmnndmaa

namespace Go.Proofs.Ytajeledbmnndmaa
open Go.RowKit Go.Sort
set_option maxRecDepth 100000
def revM (L : List Int) (n i : Nat) : List Int := (List.range n).map fun k => if k < i ∨ n - i ≤ k then L.getD (n - 1 - k) 0 else L.getD k 0
theorem revM_len (L : List Int) (n i : Nat) : (revM L n i).length = n := by simp [revM]
theorem revM_at {L : List Int} {n i k : Nat} (h : k < n) : (revM L n i).getD k 0 = if k < i ∨ n - i ≤ k then L.getD (n - 1 - k) 0 else L.getD k 0 := by simp [revM, h]
theorem revM_zero {L : List Int} {n : Nat} (h : L.length = n) : revM L n 0 = L := list_ext0 (revM_len _ _ _) h fun k hk => by rw [revM_at hk, if_neg (by omega)]
theorem revM_end {L : List Int} {n i : Nat} (h : L.length = n) (hi : n ≤ i + i + 1) (hi2 : i + i ≤ n) : revM L n i = L.reverse := list_ext0 (n := n) (revM_len _ _ _) (by rw [List.length_reverse]; exact h) fun k hk => by
  have e : L.reverse.getD k 0 = L.getD (n - 1 - k) 0 := by
    rw [List.getD_eq_getElem?_getD, List.getElem?_reverse (by omega), List.getD_eq_getElem?_getD, h]
  rw [revM_at hk, e]
  split
  · rfl
  · rw [show n - 1 - k = k by omega]
theorem revM_step {L : List Int} {n i j : Nat} (hj : j + i + 1 = n) (hij : i < j) : ((revM L n i).set i (L.getD j 0)).set j (L.getD i 0) = revM L n (i + 1) := list_ext0 (n := n) (by rw [List.length_set, List.length_set, revM_len]) (revM_len _ _ _) fun k hk => by
  by_cases e1 : k = j
  · subst e1
    rw [getD_set_same _ (by rw [List.length_set, revM_len]; exact hk), revM_at hk, if_pos (by omega), show n - 1 - k = i by omega]
  · rw [getD_set_other _ (Ne.symm e1)]
    by_cases e2 : k = i
    · subst e2
      rw [getD_set_same _ (by rw [revM_len]; exact hk), revM_at hk, if_pos (by omega), show n - 1 - k = j by omega]
    · rw [getD_set_other _ (Ne.symm e2), revM_at hk, revM_at hk]
      by_cases h : k < i ∨ n - i ≤ k
      · rw [if_pos h, if_pos (by omega)]
      · rw [if_neg h, if_neg (by omega)]
set_option maxHeartbeats 2000000 in
theorem reverse_any (L : List Int) (n base g c : Nat) (w : World) (hl : L.length = n) (h1 : 1 ≤ n) (hn : n ≤ 1000) (hbase : base ≤ w.heap.size) (hc : c ≤ maxLen) (hnc : n ≤ c) (h : Own w base (.slice (some ⟨g, 0, none⟩) n c) L) :
    Calls Try.prog 134 #[.slice (some ⟨g, 0, none⟩) n c] w fun e w' => e = .returned (.tuple #[]) ∧ Own w' base (.slice (some ⟨g, 0, none⟩) n c) L.reverse ∧ Below base w w' := by
  have HO := Lib.hid h
  have HL := Lib.hid hl
  have hg := (h.lt g rfl).1
  unfold maxLen at hc
  clear h hl
  go_enter Try.func134, Try.ntmps134
  go_wp2
  go_loopw [2, 3] (fun i j wr => ∃ a : Nat, a + a ≤ n + 1 ∧ a ≤ n ∧ i = .int .i64 a ∧ j = .int .i64 ((n : Int) - 1 - a) ∧ Hid (a + a ≤ n) ∧ Hid (Own wr base (.slice (some ⟨g, 0, none⟩) n c) (revM L n a)) ∧ Hid (Below base w wr)) (fun i _ _ => n - (intOf i).toNat)
  case atStart => exact ⟨0, by omega, by omega, rfl, by first | rfl | (congr 1; omega) | simp, by unfold Hid; omega, by rw [revM_zero HL.out]; exact HO.out, Below.refl _ _⟩
  case round =>
    obtain ⟨wo, rfl⟩ : ∃ x, x = wr := ⟨_, rfl⟩
    obtain ⟨a, ha1, ha, rfl, rfl, HAA, HOo, HBo⟩ := hrel
    by_cases hlt : (a : Int) < (n : Int) - 1 - a
    · obtain ⟨j, hj⟩ : ∃ j, j + a + 1 = n := ⟨n - 1 - a, by omega⟩
      have hjv : (n : Int) - 1 - a = j := by omega
      rw [hjv] at hlt
      rw [hjv]
      have haj : a < j := by omega
      have hl2 := revM_len L n a
      have hat := HOo.out.at1 hl2 (by omega)
      have z0 := hat.1 a (by omega)
      have z1 := hat.1 j (by omega)
      rw [revM_at (by omega), if_neg (by omega)] at z0 z1
      have f0 := hat.2 a
      have f1 := hat.2 j
      have HST := Lib.hid (revM_step (L := L) hj haj)
      have O3 := (HOo.out.set_ hl2 a (L.getD j 0)).1
      have O4 := (O3.set_ (by rw [List.length_set]; exact hl2) j (L.getD a 0)).1
      rw [HST.out] at O4
      have HO4 := Lib.hid O4
      have HB4 := Lib.hid ((HBo.out.setCell (p := ⟨g, a, none⟩) hg (.int .i64 (L.getD j 0))).setCell (p := ⟨g, j, none⟩) hg (.int .i64 (L.getD a 0)))
      clear O3 O4 hat hl2
      generalize L.getD a 0 = x at *
      generalize L.getD j 0 = y at *
      go_wp2_with fail
      have q1 : IntKind.i64.wrap ((j : Nat) : Int) = (j : Int) := by rw [IntKind.wrap_i64]; omega
      have q2 : IntKind.i64.wrap ((a : Nat) : Int) = (a : Int) := by rw [IntKind.wrap_i64]; omega
      have q3 : a < n := by omega
      have q4 : j < n := by omega
      have q5 : (a : Int) < n := by omega
      have q6 : (j : Int) < n := by omega
      have q7 : (0 : Int) ≤ a := by omega
      have q8 : (0 : Int) ≤ j := by omega
      have q9 : a ≠ j := by omega
      go_region_law (fail)
      all_goals
        clear z0 z1 f0 f1 q1 q2 q3 q4 q5 q6 q7 q8
        have HO5 : Hid (Own ((wo.setCell ⟨g, a, none⟩ (.int .i64 y)).setCell ⟨g, j, none⟩ (.int .i64 x)).drew base (.slice (some ⟨g, 0, none⟩) n c) (revM L n (a + 1))) := HO4.out
        have HB5 : Hid (Below base w ((wo.setCell ⟨g, a, none⟩ (.int .i64 y)).setCell ⟨g, j, none⟩ (.int .i64 x)).drew) := ⟨HB4.out.os, HB4.out.tape, HB4.out.output, HB4.out.size, HB4.out.block⟩
        clear HO4 HB4
        generalize ((wo.setCell ⟨g, a, none⟩ (.int .i64 y)).setCell ⟨g, j, none⟩ (.int .i64 x)).drew = w9 at HO5 HB5 ⊢
        go_wp2
        go_roundw
        case rel => exact ⟨a + 1, by omega, by omega, by go_num, by rw [show (n : Int) - 1 - ((a + 1 : Nat) : Int) = (j : Int) - 1 by omega], by unfold Hid; omega, HO5.out, HB5.out⟩
        case measure => simp [intOf]; omega
    · have HE : Hid (revM L n a = L.reverse) := revM_end HL.out (by omega) HAA.out
      go_wp2
      go_end0
      exact ⟨rfl, by rw [← HE.out]; exact HOo.out, HBo.out⟩
end Go.Proofs.Ytajeledbmnndmaa

namespace Go.Proofs.Ytajeledbmnndmaa
open Go.RowKit Go.Sort
set_option maxRecDepth 100000
theorem bit_test0 (S d : Nat) : (bits BinOp.and IntKind.i64 ((S : Int) / 2 ^ d) 1 == 0) = !S.testBit d := by
  have h := bit_test S d
  rw [i64_and_one] at h ⊢
  have h2 : ((S : Int) / 2 ^ d) % 2 = 0 ∨ ((S : Int) / 2 ^ d) % 2 = 1 := by omega
  rw [← h]
  rcases h2 with h2 | h2 <;> rw [h2] <;> rfl
theorem full_all {n S : Nat} (hS : S < 2 ^ n) (h : ∀ a, a < n → S.testBit a = true) : S = 2 ^ n - 1 := Nat.eq_of_testBit_eq fun c => by
  rw [testBit_full]
  rcases Nat.lt_or_ge c n with hc | hc
  · rw [h c hc]; simp [hc]
  · rw [Nat.testBit_lt_two_pow (Nat.lt_of_lt_of_le hS (Nat.pow_le_pow_right (by decide) hc))]
    simp; omega
theorem cell_new1' (w : World) (x : Value) (t : TypeId) : (w.alloc (.cells #[x] t)).cell? ⟨w.heap.size, 0, none⟩ = some x := by simp
theorem clo_zero (xs : List Int) : clo xs 0 := fun b c h _ => by simp at h
theorem clo_full {s : Int} {xs : List Int} (hp : tourP s xs) : clo xs (2 ^ xs.length - 1) := fun b c h hc => by
  rw [testBit_full] at h ⊢
  have hb : b < xs.length := by simpa using h
  rcases Nat.lt_or_ge c xs.length with h1 | h1
  · simpa using h1
  · rw [wins_hi hp hb h1] at hc; cases hc
def partP (a : Nat) (x : Int) : Bool := x.toNat.testBit a
noncomputable def partI (s : Int) (xs : List Int) (a : Int) : Int := if (tourB s xs && inB a 0 (s - 1)) = true then findI (partP a.toNat) (nI (partsN xs (2 ^ xs.length - 1))) else -1
set_option maxHeartbeats 4000000 in
theorem parts_any (n : Nat) (sl : Value) (xs : List Int) (hp : tourP n xs) (w : World) (h : Rd w sl xs) :
    Calls Try.prog 88 #[.agg #[.int .i64 n, sl]] w fun e w' => ∃ v', e = .returned v' ∧ Own w' w.heap.size v' (nI (partsN xs (2 ^ xs.length - 1))) ∧ Below w.heap.size w w' := by
  have hs := hp.1
  have hsl := hp.2.1
  have HR := Lib.hid h
  have HP := Lib.hid hp
  have hn : xs.length = n := by omega
  have hn8 : 1 ≤ n ∧ n ≤ 8 := by omega
  have hp8 := pow_le hn8.2
  obtain ⟨F1, F2, F3⟩ := ordS_facts xs
  rw [hn] at F1 F2 F3
  have HF1 := Lib.hid F1
  have HF2 := Lib.hid F2
  have HF3 := Lib.hid F3
  have HOL := Lib.hid (show (ordS xs).length = n by rw [ordS_len, hn])
  have HRF := Lib.hid (fun a (ha : a < n) => reach_facts hp (a := a) (by omega))
  have HPM := Lib.hid (fun K x (hK : K < 2 ^ n) (hc : clo xs K) (hx : x < n) hnn hlow => part_more hp (K := K) (x := x) (by rw [hn]; exact hK) hc (by rw [hn]; exact hx) hnn hlow)
  have HPS := Lib.hid (fun S (hS : S < 2 ^ n) (hc : clo xs S) h0 => partsN_step hp (S := S) (by rw [hn]; exact hS) hc h0)
  have HN := Lib.hid hn
  clear h F1 F2 F3 hp
  rw [HN.out] at HRF HPM HPS
  clear hn hsl hs
  go_enter Try.func88, Try.ntmps88
  go_wp2_with fail
  have b0 := below_alloc1 w (.cells #[.int .i64 n, sl] 28)
  have x0 := TBox.new w n (sl) 28
  generalize w.alloc (.cells #[.int .i64 n, sl] 28) = w0 at *
  have HX0 := Lib.hid x0
  have HB0 := Lib.hid b0
  clear x0 b0
  have y0_0 := HX0.out.1
  have y1_0 := HX0.out.2
  go_wp2_with fail
  refine (byScore_any n sl xs HP.out w0 (HR.out.below HB0.out)).mono ?_
  rintro e w1 ⟨v1, rfl, ho1, hb1⟩
  obtain ⟨g, c, rfl, hbg, hc, hnc, hcell, -⟩ := ho1.at_ (n := n) HOL.out (by omega)
  unfold maxLen at hc
  have hg1 := (ho1.lt g rfl).2
  have HCC := Lib.hid hcell
  have HB1 := Lib.hid (Below.then HB0.out hb1)
  have HX1 := Lib.hid (HX0.out.below hb1)
  clear ho1 hb1 hcell HB0 HX0 y0_0 y1_0
  go_wp2
  go_loopw [3, 4, 6] (fun v k i wr => ∃ (t K : Nat) (L : List Nat), t ≤ n ∧ i = .int .i64 ((t : Int) - 1) ∧ k = .int .i64 K ∧ K < 2 ^ n ∧ Hid (clo xs K) ∧ Hid (∀ j, t ≤ j → j < n → ∀ a : Nat, (ordS xs).getD j 0 = (a : Int) → K.testBit a = true) ∧ Hid (L.reverse = partsN xs K) ∧ L.length + t ≤ n ∧ Hid (Own wr w1.heap.size v (nI L)) ∧ Hid (Below w1.heap.size w1 wr)) (fun _ _ i _ => ((intOf i) + 1).toNat)
  case atStart => exact ⟨n, 0, [], Nat.le_refl _, rfl, rfl, Nat.two_pow_pos n, clo_zero xs, fun j h1 h2 => absurd h2 (by omega), by rw [partsN_zero]; rfl, by simp, Own.nil_ _ _, Below.refl _ _⟩
  case round =>
    obtain ⟨wo, rfl⟩ : ∃ x, x = wr := ⟨_, rfl⟩
    obtain ⟨t, K, L, ht, rfl, rfl, hK, HC, HKN, HL, hLl, HO, HB⟩ := hrel
    by_cases ht0 : 0 < t
    · obtain ⟨u, rfl⟩ : ∃ u, t = u + 1 := ⟨t - 1, by omega⟩
      have htu : ((u + 1 : Nat) : Int) - 1 = u := by omega
      rw [htu]
      have hun : u < n := by omega
      obtain ⟨x, hx, hxe⟩ := HF1.out u hun
      have hcx := (HB.out.cell (p := ⟨g, u, none⟩) hg1).trans (HCC.out u hun)
      rw [hxe] at hcx
      have HXE := Lib.hid hxe
      have HXo := Lib.hid (HX1.out.below HB.out)
      have HBo := Lib.hid (Below.then HB1.out HB.out)
      have hRx := (HRF.out x hx).2.2.2
      have hR1 := (HRF.out x hx).1
      have hRc := Lib.hid (HRF.out x hx).2.1
      have k1 := quiet_below (w := wo) (fun W hW => reach_any n sl xs x W ((HR.out.below HBo.out).below hW) HP.out (by rw [HN.out]; exact hx))
      have d1 := cell_regrown HXo.out.1
      have d2 := cell_regrown HXo.out.2
      have d3 := cell_regrown hcx
      have i1 : (0 : Int) ≤ u := by omega
      have i2 : (u : Int) < n := by omega
      clear hxe
      go_wp2_with fail
      clear hcx
      refine wp_region_below (by kernel_rfl) (by kernel_rfl) ?_
      repeat (go_big_quiet_step (first | (with_reducible exact k1 _ _)))
      refine wpQuiet_nil ?_
      intro wq hbq0
      have HBQ := Lib.hid hbq0
      have HBq := Lib.hid (Below.then HB.out hbq0)
      have HOq := Lib.hid (HO.out.below hbq0)
      have hcq := (HBq.out.cell (p := ⟨g, u, none⟩) hg1).trans (HCC.out u hun)
      rw [HXE.out] at hcq
      clear hbq0 d1 d2 d3 k1
      generalize hRe : reachN xs x = R at *
      have HRE := Lib.hid hRe
      clear hRe
      have hbt := bit_test0 K x
      have hand := i64_andNot_nat R K (by omega) (by omega)
      have hor := i64_or_nat K R (by omega) (by omega)
      have hszq := HBq.out.size
      rcases q : K.testBit x with _ | _
      · rw [q] at hbt
        have hlow : ∀ y, y < n → scK xs y < scK xs x → K.testBit y = true := fun y hy hyx => by
          obtain ⟨i', hi', hye⟩ := HF2.out y hy
          rcases Nat.lt_trichotomy i' u with h1 | h1 | h1
          · have := HF3.out i' u y x h1 hun hye HXE.out
            omega
          · subst h1
            have h2 := HXE.out
            rw [hye] at h2
            have : y = x := by omega
            subst this
            omega
          · exact HKN.out i' (by omega) hi' y hye
        have hpm := HPM.out K x hK HC.out hx q hlow
        rw [HRE.out] at hpm
        obtain ⟨m1, m2, m3⟩ := hpm
        have h0 : R ≠ 0 := by intro e; rw [e] at hR1; simp at hR1
        have hps := HPS.out R hRx hRc.out h0
        rw [m3, ← m1] at hps
        have HST : Hid ((L ++ [less R K]).reverse = partsN xs R) := by
          unfold Hid
          rw [List.reverse_append, HL.out, hps]
          rfl
        have HKN2 : Hid (∀ j, u ≤ j → j < n → ∀ a : Nat, (ordS xs).getD j 0 = (a : Int) → R.testBit a = true) := fun j hj hjn a hja => by
          by_cases e : j = u
          · subst e
            have h2 := HXE.out
            rw [hja] at h2
            have : a = x := by omega
            subst this
            exact hR1
          · have := HKN.out j (by omega) hjn a hja
            rw [← m2, Nat.testBit_or, this]; rfl
        rw [m2] at hor
        have HM := Lib.hid hps
        have ho := HOq.out
        have hln : (nI L).length = L.length := nI_len L
        clear m1 m2 m3 hps hlow
        generalize less R K = D at *
        go_wp2_with (at_builtin; refine wp_append1 wq rfl (.tmp 31) (.tmp 35) rfl w1.heap.size _ (nI L) (D : Int) (by simp [Act.eval]) ho (by simp [Act.eval]) (by omega) (by exact hszq) ?_; intro v' w7 hown1 hg1; have HO7 := Lib.hid hown1; have HB7 := Lib.hid (HBq.out.grown hg1 hszq (fun k hk => (ho.lt k hk).1)); clear hown1 hg1)
        go_roundw
        case rel => exact ⟨u, R, L ++ [D], by omega, rfl, rfl, hRx, hRc.out, HKN2.out, HST.out, by rw [List.length_append, List.length_singleton]; omega, by rw [nI_snoc]; exact HO7.out, HB7.out⟩
        case measure => simp [intOf] <;> omega
      · rw [q] at hbt
        have HKN2 : Hid (∀ j, u ≤ j → j < n → ∀ a : Nat, (ordS xs).getD j 0 = (a : Int) → K.testBit a = true) := fun j hj hjn a hja => by
          by_cases e : j = u
          · subst e
            have h2 := HXE.out
            rw [hja] at h2
            have : a = x := by omega
            subst this
            exact q
          · exact HKN.out j (by omega) hjn a hja
        go_wp2
        go_roundw
        case rel => exact ⟨u, K, L, by omega, rfl, rfl, hK, HC.out, HKN2.out, HL.out, by omega, HOq.out, HBq.out⟩
        case measure => simp [intOf] <;> omega
    · obtain rfl : t = 0 := by omega
      have hKf : K = 2 ^ n - 1 := full_all hK (fun a ha => by
        obtain ⟨i', hi', hye⟩ := HF2.out a ha
        exact HKN.out i' (by omega) hi' a hye)
      have hp2 := Nat.pow_le_pow_right (show 0 < 2 by decide) hn8.1
      have hps := HPS.out K hK HC.out (by omega)
      have hlL : 0 < L.length := by
        have := congrArg List.length HL.out
        rw [hps, List.length_reverse, List.length_cons] at this
        omega
      have HLR : Hid ((nI L).reverse = nI (partsN xs (2 ^ n - 1))) := by
        unfold Hid nI
        rw [← List.map_reverse, HL.out, hKf]
      obtain ⟨m, hm⟩ : ∃ m, L.length = m := ⟨_, rfl⟩
      obtain ⟨g2, c2, rfl, -, hc2, hmc2, -, -⟩ := HO.out.at_ (n := m) (by rw [nI_len]; exact hm) (by omega)
      have HOo := Lib.hid HO.out
      have HM : Hid ((nI L).length = m) := by unfold Hid; rw [nI_len]; exact hm
      have hszo := HB.out.size
      have hmn : m ≤ 8 := by omega
      have hm1 : 1 ≤ m := by omega
      clear hps hp2 hm
      go_wp2_with fail
      refine (reverse_any (nI L) m w1.heap.size g2 c2 wo HM.out hm1 (by omega) hszo hc2 hmc2 HOo.out).mono ?_
      rintro e w9 ⟨rfl, ho9, hb9⟩
      rw [HLR.out] at ho9
      have HO9 := Lib.hid (ho9.mono HB1.out.size)
      have HB9 := Lib.hid (Below.then HB1.out (HB.out.trans hb9))
      clear ho9 hb9
      go_wp2
      go_ret
      exact ⟨_, rfl, by rw [HN.out]; exact HO9.out, HB9.out⟩
set_option maxHeartbeats 1000000 in
theorem po1_any (S a ga : Nat) (W : World) (ca : W.cell? ⟨ga, 0, none⟩ = some (.int .i64 a)) (ha : a < 8) :
    Calls Try.prog 91 #[.int .i64 S, .pointer (some ⟨ga, 0, none⟩)] W fun e w' => e = .returned (.bool (partP a S)) ∧ Below W.heap.size W w' := by
  have hb := bit_test S a
  have hF : Hid (partP a S = S.testBit a) := by unfold Hid partP; rw [Int.toNat_natCast]
  go_enter Try.func91, Try.ntmps91
  go_wp2
  go_ret
  exact ⟨ret_bool (by rw [hF.out, ← hb]), Below.refl _ _⟩
theorem enters_po1 : Enters 91 := fun _ _ => by kernel_rfl
set_option maxHeartbeats 2000000 in
theorem implPartOf (s : Int) (sl : Value) (xs : List Int) (a : Int) (w : World) (h : Rd w sl xs) :
    Calls Try.prog 35 #[.agg #[.int .i64 s, sl], .int .i64 a] w fun e w' => e = .returned (.int .i64 (partI s xs a)) ∧ Below w.heap.size w w' := by
  have HR := Lib.hid h
  obtain ⟨A, c, rfl, -, -, -⟩ := h
  have b3 := (below_alloc1 w (.cells #[.int .i64 s, .slice A xs.length c] 28)).alloc (by simp) (.cells #[.int .i64 a] 3)
  have t0 := (TBox.new w s (.slice A xs.length c) 28).below (below_alloc1 _ (.cells #[.int .i64 a] 3))
  have c1 : ((w.alloc (.cells #[.int .i64 s, .slice A xs.length c] 28)).alloc (.cells #[.int .i64 a] 3)).cell? ⟨w.heap.size + 1, 0, none⟩ = some (.int .i64 a) := by
    have := cell_new1' (w.alloc (.cells #[.int .i64 s, .slice A xs.length c] 28)) (.int .i64 a) 3
    simpa only [World.size_alloc] using this
  have HB0 := Lib.hid b3
  have HT0 := Lib.hid t0
  have C1 := Lib.hid c1
  clear b3 t0 c1
  rcases q0 : tourB s xs with _ | _
  · have hno : partI s xs a = -1 := by simp [partI, q0]
    rw [hno]
    go_enter Try.func35, Try.ntmps35
    go_wp2_with fail
    generalize ((w.alloc (.cells #[.int .i64 s, .slice A xs.length c] 28)).alloc (.cells #[.int .i64 a] 3)) = w0 at *
    have y0 := HT0.out.1
    have y1 := HT0.out.2
    go_wp2_with fail
    refine (implTourOk s _ xs _ (HR.out.below HB0.out)).mono ?_
    rintro e w1 ⟨rfl, hb⟩
    rw [q0]
    have HB1 := Lib.hid (Below.then HB0.out hb)
    go_wp2
    go_ret
    exact ⟨rfl, HB1.out⟩
  have hp := tourB_true.1 q0
  have hs := hp.1
  have hsl := hp.2.1
  rcases q1 : inB a 0 (s - 1) with _ | _
  all_goals
    go_enter Try.func35, Try.ntmps35
    go_wp2_with fail
    generalize ((w.alloc (.cells #[.int .i64 s, .slice A xs.length c] 28)).alloc (.cells #[.int .i64 a] 3)) = w0 at *
    have y0 := HT0.out.1
    have y1 := HT0.out.2
    go_wp2_with fail
    refine (implTourOk s _ xs _ (HR.out.below HB0.out)).mono ?_
    rintro e w1 ⟨rfl, hb⟩
    rw [q0]
    have HB1 := Lib.hid (Below.then HB0.out hb)
    have HT1 := Lib.hid (HT0.out.below hb)
    have C11 := Lib.hid ((hb.cell (World.block_lt_of_cell? _ _ C1.out)).trans C1.out)
    clear y0 y1 hb
    have y0 := HT1.out.1
    have y1 := HT1.out.2
    have ca := C11.out
    go_wp2_with fail
    refine (has_any s _ a _ (by omega)).mono ?_
    rintro e w2 ⟨rfl, hb2⟩
    rw [q1]
    have HB2 := Lib.hid (Below.then HB1.out hb2)
    have HT2 := Lib.hid (HT1.out.below hb2)
    have C12 := Lib.hid ((hb2.cell (World.block_lt_of_cell? _ _ C11.out)).trans C11.out)
    clear y0 y1 ca hb2 HB0 HB1 HT0 HT1 C1 C11
  · have hno : Hid (partI s xs a = -1) := by unfold Hid; simp [partI, q1]
    go_wp2
    go_ret
    exact ⟨ret_int hno.out.symm, HB2.out⟩
  · have ha := inB_true.1 q1
    obtain ⟨i, rfl⟩ := Int.eq_ofNat_of_zero_le ha.1
    have hO : Hid (partI s xs i = findI (partP i) (nI (partsN xs (2 ^ xs.length - 1)))) := by unfold Hid partI; rw [q0, q1, Int.toNat_natCast]; rfl
    obtain ⟨n, rfl⟩ := Int.eq_ofNat_of_zero_le (show 0 ≤ s by omega)
    have HP := Lib.hid hp
    have hi8 : i < 8 := by omega
    have y0 := HT2.out.1
    have y1 := HT2.out.2
    clear q0 q1 hp
    go_wp2_with fail
    refine (parts_any n _ xs HP.out w2 (HR.out.below HB2.out)).mono ?_
    rintro e w3 ⟨v3, rfl, ho3, hb3⟩
    have C13 := Lib.hid ((hb3.cell (World.block_lt_of_cell? _ _ C12.out)).trans C12.out)
    have HO3 := Lib.hid ho3
    have HB3 := Lib.hid (Below.then HB2.out hb3)
    clear ho3 hb3 y0 y1
    go_wp2_with fail
    refine (indexFunc_any 91 #[.pointer (some ⟨w.heap.size + 1, 0, none⟩)] enters_po1 v3 (nI (partsN xs (2 ^ xs.length - 1))) (partP i) w3 HO3.out.rd (fun x hx W hW => by
      unfold nI at hx
      rw [List.mem_map] at hx
      obtain ⟨S, -, rfl⟩ := hx
      exact po1_any S i _ W ((hW.cell (World.block_lt_of_cell? _ _ C13.out)).trans C13.out) hi8)).mono ?_
    rintro e w4 ⟨rfl, hb4⟩
    have HB4 := Lib.hid (Below.then HB3.out hb4)
    clear hb4
    go_wp2
    go_ret
    exact ⟨ret_int hO.out.symm, HB4.out⟩
end Go.Proofs.Ytajeledbmnndmaa

namespace Go.Proofs.Ytajeledbmnndmaa
open Go.RowKit Go.Sort
set_option maxRecDepth 100000
theorem pt_bit (xs : List Int) (S : Nat) {a b : Nat} (ha : a < (memN S 8).length) (hb : b < (memN S 8).length) : bt (ptL xs S) a b = (!(a == b) && bt xs ((memN S 8).getD a 0) ((memN S 8).getD b 0)) := by
  unfold bt winsN
  have hg : (ptL xs S).getD a 0 = ((setOf (toQ (fun a b => bt xs ((memN S 8).getD a 0) ((memN S 8).getD b 0)) a) (memN S 8).length : Nat) : Int) := by
    unfold ptL toL; simp [ha]
  rw [hg, Int.toNat_natCast, testBit_setOf]
  simp [hb, toQ]
  rfl
theorem mem_inj {S a b : Nat} (ha : a < (memN S 8).length) (hb : b < (memN S 8).length) (hab : a ≠ b) : (memN S 8).getD a 0 ≠ (memN S 8).getD b 0 := by
  rw [getD_nat ha, getD_nat hb]
  intro e
  exact hab ((List.getElem_inj (memN_nodup S 8)).1 e)
theorem pt_tour {n : Nat} {xs : List Int} (hp : tourP n xs) {S : Nat} (h1 : 1 ≤ (memN S 8).length) (hM : ∀ b ∈ memN S 8, b < n) : tourP (memN S 8).length (ptL xs S) := by
  have hl := ptL_len xs S
  have h8 := memN_len S 8
  have hx : ∀ a, a < (memN S 8).length → (memN S 8).getD a 0 < n := fun a ha => hM _ (by rw [getD_nat ha]; exact List.getElem_mem _)
  refine tour_of_bits ⟨by omega, by omega⟩ (by rw [hl]) (fun i hi => ?_) (fun a ha => ?_) (fun a b ha hb hab => ?_)
  · rw [hl] at hi ⊢
    exact ⟨_, by unfold ptL toL; simp [hi]; rfl, setOf_lt _ _⟩
  · rw [hl] at ha
    rw [pt_bit xs S ha ha]; simp
  · rw [hl] at ha hb
    rw [pt_bit xs S ha hb, pt_bit xs S hb ha, (tr_bit hp (hx a ha) (hx b hb)).2 (mem_inj ha hb hab)]
    have e1 : (a == b) = false := by simp [hab]
    have e2 : (b == a) = false := by simp [Ne.symm hab]
    rw [e1, e2]
    simp
/-- the tour of the set's players is transitive -/
theorem pt_trans {n : Nat} {xs : List Int} (hp : tourP n xs) {S : Nat} (_h1 : 1 ≤ (memN S 8).length) (hM : ∀ b ∈ memN S 8, b < n) :
    transP (ptL xs S) (memN S 8).length ↔ ∀ x y z, x ∈ memN S 8 → y ∈ memN S 8 → z ∈ memN S 8 → bt xs x y = true → bt xs y z = true → bt xs x z = true := by
  have key : ∀ a b, a < (memN S 8).length → b < (memN S 8).length → (bt (ptL xs S) a b = true ↔ bt xs ((memN S 8).getD a 0) ((memN S 8).getD b 0) = true) := fun a b ha hb => by
    rw [pt_bit xs S ha hb]
    by_cases e : a = b
    · subst e
      have := (tr_bit hp (hM _ (by rw [getD_nat ha]; exact List.getElem_mem _) : (memN S 8).getD a 0 < n) (hM _ (by rw [getD_nat ha]; exact List.getElem_mem _))).1 rfl
      rw [this]; simp
    · simp [e]
  constructor
  · intro h x y z hx hy hz h1 h2
    obtain ⟨a, ha, rfl⟩ := List.getElem_of_mem hx
    obtain ⟨b, hb, rfl⟩ := List.getElem_of_mem hy
    obtain ⟨c, hc, rfl⟩ := List.getElem_of_mem hz
    have k1 := key a b ha hb
    have k2 := key b c hb hc
    have k3 := key a c ha hc
    rw [getD_nat ha, getD_nat hb] at k1
    rw [getD_nat hb, getD_nat hc] at k2
    rw [getD_nat ha, getD_nat hc] at k3
    exact k3.1 (h a b c ha hb hc (k1.2 h1) (k2.2 h2))
  · intro h a b c ha hb hc h1 h2
    exact (key a c ha hc).2 (h _ _ _ (by rw [getD_nat ha]; exact List.getElem_mem _) (by rw [getD_nat hb]; exact List.getElem_mem _) (by rw [getD_nat hc]; exact List.getElem_mem _) ((key a b ha hb).1 h1) ((key b c hb hc).1 h2))
def trN (xs : List Int) (S : Nat) : Bool := decide ((partsN (ptL xs S) (2 ^ (memN S 8).length - 1)).length = (memN S 8).length)
theorem trN_iff {n : Nat} {xs : List Int} (hp : tourP n xs) {S : Nat} (h1 : 1 ≤ (memN S 8).length) (hM : ∀ b ∈ memN S 8, b < n) :
    trN xs S = true ↔ ∀ x y z, x ∈ memN S 8 → y ∈ memN S 8 → z ∈ memN S 8 → bt xs x y = true → bt xs y z = true → bt xs x z = true := by
  unfold trN
  rw [decide_eq_true_eq, trans_iff (pt_tour hp h1 hM), pt_trans hp h1 hM]
end Go.Proofs.Ytajeledbmnndmaa

namespace Go.Proofs.Ytajeledbmnndmaa
open Go.RowKit Go.Sort
set_option maxRecDepth 100000
/-- nobody beats the whole set, which is transitive -/
noncomputable def okS (xs : List Int) (n S : Nat) : Bool := trN xs S && !((List.range n).any fun a => decide (winsN xs a &&& S = S))
def bkIn (xs : List Int) (S : Nat) (l : List Nat) (o : Nat) : Nat := l.foldl (fun o a => if less S (winsN xs a) = 2 ^ a then o ||| 2 ^ a else o) o
noncomputable def bkK (xs : List Int) (n : Nat) : Nat → Nat
  | 0 => 0
  | k + 1 => if okS xs n (k + 1) = true then bkIn xs (k + 1) (memN (k + 1) 8) (bkK xs n k) else bkK xs n k
theorem bkIn_bit (xs : List Int) (S : Nat) (c : Nat) : ∀ (l : List Nat) (o : Nat), (bkIn xs S l o).testBit c = true ↔ o.testBit c = true ∨ (c ∈ l ∧ less S (winsN xs c) = 2 ^ c) := by
  intro l
  induction l with
  | nil => intro o; simp [bkIn]
  | cons a l ih =>
    intro o
    have : bkIn xs S (a :: l) o = bkIn xs S l (if less S (winsN xs a) = 2 ^ a then o ||| 2 ^ a else o) := rfl
    rw [this, ih]
    by_cases h : less S (winsN xs a) = 2 ^ a
    · rw [if_pos h, Nat.testBit_or, Nat.testBit_two_pow, Bool.or_eq_true, decide_eq_true_eq, List.mem_cons]
      constructor
      · rintro ((h1 | rfl) | h1)
        · exact .inl h1
        · exact .inr ⟨.inl rfl, h⟩
        · exact .inr ⟨.inr h1.1, h1.2⟩
      · rintro (h1 | ⟨rfl | h1, h2⟩)
        · exact .inl (.inl h1)
        · exact .inl (.inr rfl)
        · exact .inr ⟨h1, h2⟩
    · rw [if_neg h, List.mem_cons]
      constructor
      · rintro (h1 | h1)
        · exact .inl h1
        · exact .inr ⟨.inr h1.1, h1.2⟩
      · rintro (h1 | ⟨rfl | h1, h2⟩)
        · exact .inl h1
        · exact absurd h2 h
        · exact .inr ⟨h1, h2⟩
theorem bkK_bit (xs : List Int) (n c : Nat) : ∀ k, (bkK xs n k).testBit c = true ↔ ∃ S, 1 ≤ S ∧ S ≤ k ∧ okS xs n S = true ∧ c ∈ memN S 8 ∧ less S (winsN xs c) = 2 ^ c := by
  intro k
  induction k with
  | zero =>
    simp only [bkK, Nat.zero_testBit]
    constructor
    · intro h; cases h
    · rintro ⟨S, h1, h2, -⟩; omega
  | succ k ih =>
    simp only [bkK]
    by_cases h : okS xs n (k + 1) = true
    · rw [if_pos h, bkIn_bit, ih]
      constructor
      · rintro (⟨S, h1, h2, h3⟩ | h1)
        · exact ⟨S, h1, by omega, h3⟩
        · exact ⟨k + 1, by omega, Nat.le_refl _, h, h1⟩
      · rintro ⟨S, h1, h2, h3⟩
        by_cases e : S = k + 1
        · subst e; exact .inr h3.2
        · exact .inl ⟨S, h1, by omega, h3⟩
    · rw [if_neg h, ih]
      constructor
      · rintro ⟨S, h1, h2, h3⟩; exact ⟨S, h1, by omega, h3⟩
      · rintro ⟨S, h1, h2, h3⟩
        by_cases e : S = k + 1
        · subst e; exact absurd h3.1 h
        · exact ⟨S, h1, by omega, h3⟩
/-- a banks winner is a king -/
theorem bk_king {n : Nat} {xs : List Int} (hp : tourP n xs) {c : Nat} (h : (bkK xs n (2 ^ n - 1)).testBit c = true) : c < n ∧ kingN xs c = true := by
  have h8 : n ≤ 8 := by have := hp.1; omega
  obtain ⟨S, h1, h2, h3, h4, h5⟩ := (bkK_bit xs n c _).1 h
  have hS : S < 2 ^ n := by have := Nat.one_le_two_pow (n := n); omega
  have hc : c < n := bit_lt hS (mem_memN.1 h4).2
  have hother : ∀ d, S.testBit d = true → d ≠ c → bt xs c d = true := fun d hd hdc => by
    have := congrArg (fun z => z.testBit d) h5
    simp only [testBit_less, Nat.testBit_two_pow, hd] at this
    show (winsN xs c).testBit d = true
    rw [decide_eq_false (fun e : c = d => hdc e.symm)] at this
    simpa using this
  refine ⟨hc, (king_iff hp hc).2 fun d hd => ?_⟩
  by_cases e : d = c
  · exact .inl e
  · rcases q : bt xs c d with _ | _
    · right; right
      have hdS : S.testBit d = false := by
        rcases q2 : S.testBit d with _ | _
        · rfl
        · rw [hother d q2 e] at q; cases q
      unfold okS at h3
      rw [Bool.and_eq_true, Bool.not_eq_true', List.any_eq_false] at h3
      have h6 := h3.2 d (by simpa using hd)
      rw [decide_eq_true_eq] at h6
      have hex : ∃ b, S.testBit b = true ∧ bt xs d b = false := by
        refine Classical.byContradiction fun hno => h6 (Nat.eq_of_testBit_eq fun j => ?_)
        rw [Nat.testBit_and]
        rcases q2 : S.testBit j with _ | _
        · simp
        · rcases q3 : bt xs d j with _ | _
          · exact absurd ⟨j, q2, q3⟩ hno
          · have : (winsN xs d).testBit j = true := q3
            rw [this]; rfl
      obtain ⟨b, hb, hdb⟩ := hex
      have hbn : b < n := bit_lt hS hb
      have hbd : b ≠ d := fun e => by subst e; rw [hb] at hdS; cases hdS
      have hbd' := (bt_flip hp hbn hd hbd).2 hdb
      have hbc : b ≠ c := fun e2 => by subst e2; rw [hbd'] at q; cases q
      exact ⟨b, hbn, hother b hb hbc, hbd'⟩
    · exact .inr (.inl rfl)
theorem card_more {T U n c : Nat} (h : ∀ j, T.testBit j = true → U.testBit j = true) (hc : c < n) (h1 : U.testBit c = true) (h2 : T.testBit c = false) : cardN T n + 1 ≤ cardN U n := by
  have e := card_split h n
  have := card_pos hc (S := less U T) (by rw [testBit_less, h1, h2]; rfl)
  omega
theorem card_le (S n : Nat) : cardN S n ≤ n := memN_len S n
theorem max_ex {P : Nat → Prop} (f : Nat → Nat) (N : Nat) (hf : ∀ S, f S ≤ N) : ∀ B, (∃ S, P S ∧ N - f S ≤ B) → ∃ S, P S ∧ ∀ T, P T → f T ≤ f S := by
  intro B
  induction B with
  | zero =>
    rintro ⟨S, h1, h2⟩
    exact ⟨S, h1, fun T _ => by have := hf T; omega⟩
  | succ B ih =>
    rintro ⟨S, h1, h2⟩
    by_cases h : ∀ T, P T → f T ≤ f S
    · exact ⟨S, h1, h⟩
    · obtain ⟨T, hT⟩ := Classical.not_forall.1 h
      obtain ⟨hT1, hT2⟩ := Classical.not_imp.1 hT
      exact ih ⟨T, hT1, by have := hf T; omega⟩
/-- the banks set is not empty -/
theorem bk_some {n : Nat} {xs : List Int} (hp : tourP n xs) : ∃ c, (bkK xs n (2 ^ n - 1)).testBit c = true := by
  have h8 : n ≤ 8 := by have := hp.1; omega
  have hn : 0 < n := by have := hp.1; omega
  let P : Nat → Prop := fun S => S < 2 ^ n ∧ 1 ≤ S ∧ ∀ x y z, S.testBit x = true → S.testBit y = true → S.testBit z = true → bt xs x y = true → bt xs y z = true → bt xs x z = true
  have hP0 : P 1 := ⟨Nat.one_lt_two_pow (by omega), Nat.le_refl _, fun x y z hx hy _ hxy _ => by
    have e : ∀ j, (1 : Nat).testBit j = true → j = 0 := fun j hj => by
      rw [show (1 : Nat) = 2 ^ 0 from rfl, Nat.testBit_two_pow, decide_eq_true_eq] at hj; exact hj.symm
    rw [e x hx, e y hy, (tr_bit hp hn hn).1 rfl] at hxy; cases hxy⟩
  obtain ⟨S, ⟨hS, hS1, hSt⟩, hmax⟩ := max_ex (P := P) (fun S => cardN S n) n (fun S => card_le S n) n ⟨1, hP0, by omega⟩
  have hM : ∀ b ∈ memN S 8, b < n := fun b hb => bit_lt hS (mem_memN.1 hb).2
  obtain ⟨c0, hc0⟩ := Nat.exists_testBit_of_ne_zero (show S ≠ 0 by omega)
  -- a top
  obtain ⟨c, hcS, hcm⟩ := max_ex (P := fun c => S.testBit c = true) (fun c => cardN (S &&& winsN xs c) n) n (fun c => card_le _ n) n ⟨c0, hc0, by omega⟩
  have hcn : c < n := bit_lt hS hcS
  have htop : ∀ b, S.testBit b = true → b ≠ c → bt xs c b = true := fun b hb hbc => by
    have hbn := bit_lt hS hb
    rcases q : bt xs c b with _ | _
    · exfalso
      have hbc' := (bt_flip hp hbn hcn hbc).2 q
      have h1 := card_more (T := S &&& winsN xs c) (U := S &&& winsN xs b) (n := n) (c := c) (fun j hj => by
        rw [Nat.testBit_and, Bool.and_eq_true] at hj ⊢
        exact ⟨hj.1, hSt b c j hb hcS hj.1 hbc' hj.2⟩) hcn (by rw [Nat.testBit_and, hcS]; exact hbc') (by rw [Nat.testBit_and, hcS]; exact (tr_bit hp hcn hcn).1 rfl)
      have := hcm b hb
      omega
    · rfl
  refine ⟨c, (bkK_bit xs n c _).2 ⟨S, hS1, by omega, ?_, mem_memN.2 ⟨by omega, hcS⟩, Nat.eq_of_testBit_eq fun j => ?_⟩⟩
  · unfold okS
    rw [Bool.and_eq_true, Bool.not_eq_true', List.any_eq_false]
    refine ⟨(trN_iff hp (List.length_pos_of_mem (mem_memN.2 ⟨by omega, hcS⟩)) hM).2 fun x y z hx hy hz => hSt x y z (mem_memN.1 hx).2 (mem_memN.1 hy).2 (mem_memN.1 hz).2, fun a ha hd => ?_⟩
    rw [decide_eq_true_eq] at hd
    have han : a < n := by simpa using ha
    have hall : ∀ j, S.testBit j = true → bt xs a j = true := fun j hj => by
      rw [← hd, Nat.testBit_and, Bool.and_eq_true] at hj; exact hj.1
    have haS : S.testBit a = false := by
      rcases q : S.testBit a with _ | _
      · rfl
      · have := hall a q; rw [(tr_bit hp han han).1 rfl] at this; cases this
    have hno : ∀ j, S.testBit j = true → bt xs j a = false := fun j hj => (bt_asym hp han (bit_lt hS hj) (hall j hj)).1
    have hPT : P (S ||| 2 ^ a) := ⟨Nat.or_lt_two_pow hS (Nat.pow_lt_pow_right (by decide) han), by have := Nat.left_le_or (n := S) (m := 2 ^ a); omega, fun x y z hx hy hz hxy hyz => by
      rw [Nat.testBit_or, Nat.testBit_two_pow, Bool.or_eq_true, decide_eq_true_eq] at hx hy hz
      rcases hx with hx | rfl
      · rcases hy with hy | rfl
        · rcases hz with hz | rfl
          · exact hSt x y z hx hy hz hxy hyz
          · rw [hno y hy] at hyz; cases hyz
        · rw [hno x hx] at hxy; cases hxy
      · rcases hz with hz | rfl
        · exact hall z hz
        · rcases hy with hy | rfl
          · rw [hno y hy] at hyz; cases hyz
          · exact hxy⟩
    have h2 := hmax _ hPT
    have h3 := card_more (T := S) (U := S ||| 2 ^ a) (n := n) (c := a) (fun j hj => by rw [Nat.testBit_or, hj]; rfl) han (by rw [Nat.testBit_or, Nat.testBit_two_pow]; simp) haS
    have h4 : cardN (S ||| 2 ^ a) n ≤ cardN S n := h2
    omega
  · rw [testBit_less, Nat.testBit_two_pow]
    by_cases e : c = j
    · subst e
      have : (winsN xs c).testBit c = false := (tr_bit hp hcn hcn).1 rfl
      rw [hcS, this]; simp
    · rw [decide_eq_false e]
      rcases q : S.testBit j with _ | _
      · rfl
      · have : (winsN xs c).testBit j = true := htop j q (Ne.symm e)
        rw [this]; rfl
end Go.Proofs.Ytajeledbmnndmaa

namespace Go.Proofs.Ytajeledbmnndmaa
open Go.RowKit Go.Sort
set_option maxRecDepth 100000
theorem same_true (xs ys : List Int) (h : xs.length = ys.length) (HP : ∀ j, j < xs.length → xs.getD j 0 = ys.getD j 0) : decide (xs = ys) = true := by
  rw [decide_eq_true]
  apply List.ext_getElem h
  intro i h1 h2
  have := HP i h1
  simpa [h1, h2] using this
set_option maxHeartbeats 400000 in
theorem lsame_any (v1 v2 : Value) (xs ys : List Int) (w : World) (h1 : Rd w v1 xs) (h2 : Rd w v2 ys) :
    Calls Try.prog 32 #[v1, v2] w fun e w' => e = .returned (.bool (decide (xs = ys))) ∧ w = w' := by
  obtain ⟨A, c, rfl, hl1, hm1, hc1⟩ := h1
  obtain ⟨B, d, rfl, hl2, hm2, hc2⟩ := h2
  unfold maxLen at hm1 hm2
  generalize hn : xs.length = n at *
  generalize hm : ys.length = m at *
  have H1 := Lib.hid hn
  have H2 := Lib.hid hm
  have H3 := Lib.hid hc1
  have H4 := Lib.hid hc2
  clear hn hm hc1 hc2
  by_cases hnm : n = m
  · subst hnm
    have hne : ((n : Int) != (n : Int)) = false := by simp
    go_enter Try.func32, Try.ntmps32
    go_wp2
    go_loop [14] (fun i => ∃ k : Nat, k ≤ n ∧ i = .int .i64 k ∧ Hid (∀ j, j < k → xs.getD j 0 = ys.getD j 0)) (fun i => n - (intOf i).toNat)
    case atStart => exact ⟨0, by omega, rfl, fun j hj => absurd hj (by omega)⟩
    case round =>
      obtain ⟨k, hk, rfl, HP⟩ := hrel
      by_cases hlt : k < n
      · obtain ⟨b, off, rfl, hb, hx⟩ := H3.out (by omega)
        obtain ⟨b', off', rfl, hb', hy⟩ := H4.out (by omega)
        have hxk := hx k hlt
        have hyk := hy k hlt
        clear hx hy
        generalize hX : xs.getD k 0 = X at *
        generalize hY : ys.getD k 0 = Y at *
        have HXE := Lib.hid hX
        have HYE := Lib.hid hY
        clear hX hY
        by_cases hXY : X = Y
        · have hne2 : (X != Y) = false := by simp [hXY]
          have HP2 : Hid (∀ j, j < k + 1 → xs.getD j 0 = ys.getD j 0) := Lib.hid fun j hj => by
            by_cases hjk : j < k
            · exact HP.out j hjk
            · obtain rfl : j = k := by omega
              rw [HXE.out, HYE.out, hXY]
          clear hXY
          go_wp2
          go_round
          case rel => exact ⟨k + 1, by omega, by go_num, HP2⟩
          case measure => simp [intOf]; omega
        · have hne2 : (X != Y) = true := by simp [hXY]
          go_wp2
          go_ret
          refine ⟨ret_bool ?_, rfl⟩
          refine (decide_eq_false ?_).symm
          rintro rfl
          exact hXY (HXE.out.symm.trans HYE.out)
      · have hge : ¬ ((k : Int) < (n : Int)) := by omega
        go_wp2
        go_ret
        exact ⟨ret_bool (same_true xs ys (by rw [H1.out, H2.out]) fun j hj => HP.out j (by have := H1.out; omega)).symm, rfl⟩
  · have hne : ((n : Int) != (m : Int)) = true := by simp; omega
    go_enter Try.func32, Try.ntmps32
    go_wp2
    go_ret
    refine ⟨ret_bool (decide_eq_false ?_).symm, rfl⟩
    rintro rfl
    exact hnm (H1.out.symm.trans H2.out)
theorem same_yes (v1 v2 : Value) (xs : List Int) (w : World) (h1 : Rd w v1 xs) (h2 : Rd w v2 xs) :
    Calls Try.prog 32 #[v1, v2] w fun e w' => e = .returned (.bool true) ∧ w = w' := by
  have := lsame_any v1 v2 xs xs w h1 h2
  rwa [decide_eq_true (rfl : xs = xs)] at this
set_option maxHeartbeats 1000000 in
theorem lawBits_any (x : Nat) (w : World) (h : x < 256) :
    Calls Try.prog 24 #[.int .i64 x] w fun e w' => e = .returned (.int .i64 (popN 8 x : Nat)) ∧ w = w' := by
  go_enter Try.func24, Try.ntmps24
  go_wp2
  go_loop [0, 3] (fun n t => ∃ j m k : Nat, j ≤ 8 ∧ n = .int .i64 m ∧ m < 2 ^ j ∧ t = .int .i64 k ∧ k ≤ 8 ∧ Hid (k + popN j m = popN 8 x)) (fun n _ => (intOf n).toNat)
  case atStart => exact ⟨8, x, 0, by omega, rfl, h, rfl, by omega, by simp [Hid]⟩
  case round =>
    obtain ⟨j, m, k, hj, rfl, hm, rfl, hk, HP⟩ := hrel
    by_cases h0 : 0 < m
    · obtain ⟨j, rfl⟩ : ∃ i, j = i + 1 := ⟨j - 1, by
        rcases j with _ | j
        · simp at hm; omega
        · omega⟩
      have hp := popN_le 8 x
      have hq : k + (m % 2 + popN j (m / 2)) = popN 8 x := HP.out
      clear HP
      have hand := i64_and_one (m : Int)
      have h2 : 2 ^ (j + 1) = 2 * 2 ^ j := by rw [Nat.pow_succ]; omega
      go_wp2
      go_round
      case rel => exact ⟨j, m / 2, k + m % 2, by omega, by first | go_num | (simp; omega), by omega, by first | go_num | (rw [hand]; go_num), by omega, by unfold Hid; omega⟩
      case measure => simp [intOf]; omega
    · obtain rfl : m = 0 := by omega
      have hq := HP.out
      rw [popN_zero] at hq
      go_wp2
      go_ret
      exact ⟨ret_int (by omega), rfl⟩
end Go.Proofs.Ytajeledbmnndmaa

namespace Go.Proofs.Ytajeledbmnndmaa
open Go.RowKit Go.Sort
set_option maxRecDepth 100000
section
variable {n : Nat} {xs : List Int} {sl : Value} {w : World}
theorem rd_at {A : Option Addr} {c n : Nat} {L : List Int} (h : Rd w (.slice A n c) L) (hl : L.length = n) (h1 : 0 < n) : ∃ g off, A = some ⟨g, off, none⟩ := by
  obtain ⟨A', c', e, -, -, hx⟩ := h
  injection e with e1 _ _
  subst e1
  obtain ⟨g, off, rfl, -, -⟩ := hx (by omega)
  exact ⟨g, off, rfl⟩
theorem rd_cell {g off c n : Nat} {L : List Int} (h : Rd w (.slice (some ⟨g, off, none⟩) n c) L) (hl : L.length = n) {i : Nat} (hi : i < n) : w.cell? ⟨g, off + i, none⟩ = some (.int .i64 (L.getD i 0)) := by
  obtain ⟨A', c', e, -, -, hx⟩ := h
  injection e with e1 _ _
  subst e1
  obtain ⟨g', off', e', -, hc⟩ := hx (by omega)
  injection e' with e'
  injection e' with e1 e2 _
  subst e1 e2
  exact hc i (by omega)
theorem rd_len {A : Option Addr} {c n : Nat} {L : List Int} (h : Rd w (.slice A n c) L) : L.length = n ∧ n ≤ c ∧ c ≤ maxLen := by
  obtain ⟨A', c', e, h1, h2, -⟩ := h
  injection e with _ e2 e3
  subst e3
  omega
theorem rd_rows {A : Option Addr} {c m : Nat} {rows : List (List Int)} (h : RdRows w (.slice A m c) rows) {j : Nat} (hj : j < m) : ∃ g u, A = some ⟨g, 0, none⟩ ∧ w.cell? ⟨g, j, none⟩ = some u ∧ Rd w u (rows.getD j []) := by
  obtain ⟨A', c', e, h1, h2, hx⟩ := h
  injection e with e1 e2 e3
  subst e1
  obtain ⟨g, rfl, -, hc⟩ := hx (by omega)
  obtain ⟨u, h3, h4⟩ := hc j (by omega)
  exact ⟨g, u, rfl, h3, h4⟩
theorem rd_cap {A : Option Addr} {c n : Nat} {L : List Int} (h : Rd w (.slice A n c) L) : c ≤ maxLen := by
  obtain ⟨A', c', e, -, hm, -⟩ := h
  injection e with _ _ e3
  subst e3
  exact hm
theorem in_tour {n : Nat} {c : Nat} (hc : c < n) : inB (c : Int) 0 ((n : Int) - 1) = true := inB_true.2 ⟨by omega, by omega⟩
theorem beat_bt (hp : tourP n xs) {a b : Nat} (ha : a < n) (hb : b < n) : beatB n xs a b = bt xs a b := by
  unfold beatB
  rw [tourB_true.2 hp, in_tour ha, in_tour hb, Int.toNat_natCast, Int.toNat_natCast, bitI_bt (tour_wins hp (tour_len hp ▸ ha)).1]
  rfl
theorem cBeat (hp : tourP n xs) (h : Rd w sl xs) (a b : Nat) (ha : a < n) (hb : b < n) : Calls Try.prog 36 #[.agg #[.int .i64 n, sl], .int .i64 a, .int .i64 b] w fun e w' => e = .returned (.bool (bt xs a b)) ∧ Below w.heap.size w w' :=
  (implDoesBeat n sl xs a b w h).mono fun e w' ⟨h1, h3⟩ => by
    rw [beat_bt hp ha hb] at h1
    exact ⟨h1, h3⟩
end
end Go.Proofs.Ytajeledbmnndmaa

