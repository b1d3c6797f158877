/- Levels and the first shortest way: the plain part. -/
import Derived.Test.YtkcffjojklmbpaaDfs
namespace Go.Proofs.Ytkcffjojklmbpaa
open Go.RowKit Go.Sort
set_option maxRecDepth 100000
def lvHit (xs : List Int) (n r : Nat) (f : Nat → Int) (a : Nat) : Bool := (memN (winsN xs a) n).any fun c => f c == (r : Int)
def lv (xs : List Int) (n b : Nat) : Nat → Nat → Int
  | 0, a => if a = b then 0 else -1
  | r + 1, a => if lv xs n b r a < 0 ∧ lvHit xs n r (lv xs n b r) a = true then (r : Int) + 1 else lv xs n b r a
theorem lv_succ (xs : List Int) (n b r a : Nat) : lv xs n b (r + 1) a = if lv xs n b r a < 0 ∧ lvHit xs n r (lv xs n b r) a = true then (r : Int) + 1 else lv xs n b r a := rfl
theorem lv_bd (xs : List Int) (n b : Nat) : ∀ r a, -1 ≤ lv xs n b r a ∧ lv xs n b r a ≤ r := by
  intro r
  induction r with
  | zero => intro a; simp only [lv]; split <;> omega
  | succ r ih => intro a; have := ih a; rw [lv_succ]; split <;> omega
theorem lv_keep {xs : List Int} {n b r a : Nat} (h : 0 ≤ lv xs n b r a) : ∀ d, lv xs n b (r + d) a = lv xs n b r a := by
  intro d
  induction d with
  | zero => rfl
  | succ d ih => rw [← Nat.add_assoc, lv_succ, if_neg (by rw [ih]; omega), ih]
theorem lv_keep' {xs : List Int} {n b r r' a : Nat} (h : 0 ≤ lv xs n b r a) (hr : r ≤ r') : lv xs n b r' a = lv xs n b r a := by
  obtain ⟨d, rfl⟩ := Nat.exists_eq_add_of_le hr
  exact lv_keep h d
theorem lv_at {xs : List Int} {n b : Nat} {d : Nat} : ∀ {r a : Nat}, lv xs n b r a = (d : Int) → d ≤ r ∧ lv xs n b d a = (d : Int) := by
  intro r
  induction r with
  | zero =>
    intro a h
    have := lv_bd xs n b 0 a
    have hd : d = 0 := by omega
    subst hd
    exact ⟨Nat.le_refl _, h⟩
  | succ r ih =>
    intro a h
    by_cases hc : lv xs n b r a < 0 ∧ lvHit xs n r (lv xs n b r) a = true
    · rw [lv_succ, if_pos hc] at h
      have hd : d = r + 1 := by omega
      subst hd
      exact ⟨Nat.le_refl _, by rw [lv_succ, if_pos hc]; omega⟩
    · rw [lv_succ, if_neg hc] at h
      have := ih h
      exact ⟨by omega, this.2⟩
theorem lv_zero {xs : List Int} {n b r a : Nat} (h : lv xs n b r a = 0) : a = b := by
  have := (lv_at (d := 0) h).2
  simp only [lv] at this
  split at this
  · assumption
  · omega
theorem lv_b (xs : List Int) (n b r : Nat) : lv xs n b r b = 0 := by
  have h0 : lv xs n b 0 b = 0 := by simp [lv]
  rw [lv_keep' (r := 0) (by rw [h0]; omega) (by omega), h0]
theorem lvHit_iff {xs : List Int} {n r : Nat} {f : Nat → Int} {a : Nat} : lvHit xs n r f a = true ↔ ∃ c, c ∈ memN (winsN xs a) n ∧ f c = (r : Int) := by
  unfold lvHit
  rw [List.any_eq_true]
  simp
theorem lv_pred {xs : List Int} {n b r a d : Nat} (h : lv xs n b r a = ((d + 1 : Nat) : Int)) : ∃ c, c ∈ memN (winsN xs a) n ∧ lv xs n b r c = (d : Int) := by
  obtain ⟨h1, h2⟩ := lv_at h
  rw [lv_succ] at h2
  by_cases hc : lv xs n b d a < 0 ∧ lvHit xs n d (lv xs n b d) a = true
  · obtain ⟨c, hm, hv⟩ := lvHit_iff.1 hc.2
    exact ⟨c, hm, by rw [lv_keep' (r := d) (by omega) (by omega)]; exact hv⟩
  · rw [if_neg hc] at h2
    have := (lv_bd xs n b d a).2
    omega
theorem lv_step {xs : List Int} {n b a c d : Nat} (hc : c ∈ memN (winsN xs a) n) (h : lv xs n b n c = (d : Int)) (hd : d < n) : 0 ≤ lv xs n b n a ∧ lv xs n b n a ≤ d + 1 := by
  have h2 := (lv_at h).2
  have h3 : 0 ≤ lv xs n b (d + 1) a ∧ lv xs n b (d + 1) a ≤ d + 1 := by
    have hb := lv_bd xs n b (d + 1) a
    refine ⟨?_, by omega⟩
    rw [lv_succ]
    by_cases hl : lv xs n b d a < 0
    · rw [if_pos ⟨hl, lvHit_iff.2 ⟨c, hc, h2⟩⟩]; omega
    · rw [if_neg (fun h => hl h.1)]; omega
  rw [lv_keep' (r := d + 1) h3.1 (by omega)]
  exact h3
theorem lv_chain {xs : List Int} {n b : Nat} : ∀ (d a : Nat), a < n → lv xs n b n a = (d : Int) → ∃ l : List Nat, l.length = d + 1 ∧ l.Nodup ∧ ∀ x ∈ l, x < n ∧ lv xs n b n x ≤ d := by
  intro d
  induction d with
  | zero => intro a ha h; exact ⟨[a], rfl, by simp, fun x hx => by simp at hx; subst hx; exact ⟨ha, by omega⟩⟩
  | succ d ih =>
    intro a ha h
    obtain ⟨c, hc, hv⟩ := lv_pred h
    obtain ⟨l, h1, h2, h3⟩ := ih c (mem_memN.1 hc).1 hv
    refine ⟨a :: l, by simp [h1], ?_, fun x hx => ?_⟩
    · rw [List.nodup_cons]
      exact ⟨fun hm => by have := (h3 a hm).2; omega, h2⟩
    · rw [List.mem_cons] at hx
      rcases hx with rfl | hx
      · exact ⟨ha, by omega⟩
      · have := h3 x hx; exact ⟨this.1, by omega⟩
theorem lv_top {xs : List Int} {n b a d : Nat} (ha : a < n) (h : lv xs n b n a = (d : Int)) : d < n := by
  obtain ⟨l, h1, h2, h3⟩ := lv_chain d a ha h
  have h4 := nodup_le n (nI l) (List.Pairwise.map _ (fun a b hab h => hab (by omega)) h2) (fun y hy => by
    unfold nI at hy
    rw [List.mem_map] at hy
    obtain ⟨x, hx, rfl⟩ := hy
    have := (h3 x hx).1
    omega)
  rw [nI_len] at h4
  omega
def nxt (xs : List Int) (n b : Nat) (m a : Nat) : Nat := ((memN (winsN xs a) n).find? fun c => lv xs n b n c == (m : Int)).getD 0
def gw (xs : List Int) (n b : Nat) : Nat → Nat → List Nat
  | 0, _ => []
  | m + 1, a => nxt xs n b m a :: gw xs n b m (nxt xs n b m a)
theorem gw_len (xs : List Int) (n b : Nat) : ∀ m a, (gw xs n b m a).length = m := by
  intro m
  induction m with
  | zero => intro a; rfl
  | succ m ih => intro a; simp [gw, ih]
def wB (b : Nat) (way : List Nat) : Bool := lastN way == b
theorem lastN_snoc (l : List Nat) (b : Nat) : lastN (l ++ [b]) = b := by simp [lastN]
theorem dfs_lv {xs : List Int} {n b : Nat} : ∀ m way L, m < n → way ≠ [] → dfs xs n (wB b) m way = some L → 0 ≤ lv xs n b n (lastN way) ∧ lv xs n b n (lastN way) ≤ m := by
  intro m
  induction m with
  | zero =>
    intro way L hm hw h
    rw [dfs] at h
    split at h
    · rename_i hq
      have : lastN way = b := by simpa [wB] using hq
      rw [this, lv_b]; omega
    · cases h
  | succ m ih =>
    intro way L hm hw h
    rw [dfs] at h
    obtain ⟨c, hc, hs⟩ := List.exists_of_findSome?_eq_some h
    have h2 := ih (way ++ [c]) L (by omega) (by simp) hs
    rw [lastN_snoc] at h2
    obtain ⟨e, he⟩ := Int.eq_ofNat_of_zero_le h2.1
    have h3 := lv_step ((List.mem_filter.1 hc).1) he (by omega)
    omega
theorem find_some {β : Type} {l : List Nat} {p : Nat → Bool} {F : Nat → Option β} {c : Nat} {y : β} (hf : l.find? p = some c) (h : ∀ x ∈ l, p x = false → F x = none) (hy : F c = some y) : l.findSome? F = some y := by
  induction l with
  | nil => cases hf
  | cons x l ih =>
    rcases q : p x with _ | _
    · rw [List.find?_cons, q] at hf
      rw [List.findSome?_cons, h x (by simp) q]
      exact ih hf (fun z hz => h z (by simp [hz]))
    · rw [List.find?_cons, q] at hf
      injection hf with hf
      subst hf
      rw [List.findSome?_cons, hy]
theorem nxt_find {xs : List Int} {n b m a : Nat} (h : lv xs n b n a = ((m + 1 : Nat) : Int)) : (memN (winsN xs a) n).find? (fun c => lv xs n b n c == (m : Int)) = some (nxt xs n b m a) ∧ nxt xs n b m a ∈ memN (winsN xs a) n ∧ lv xs n b n (nxt xs n b m a) = (m : Int) := by
  obtain ⟨c, hc, hv⟩ := lv_pred h
  rcases q : (memN (winsN xs a) n).find? (fun c => lv xs n b n c == (m : Int)) with _ | c0
  · rw [List.find?_eq_none] at q
    exact absurd (by simpa using hv) (q c hc)
  · have e : nxt xs n b m a = c0 := by unfold nxt; rw [q]; rfl
    have h1 := List.find?_some q
    have h2 := List.mem_of_find?_eq_some q
    rw [e]
    exact ⟨rfl, h2, by simpa using h1⟩
theorem dfs_gw {xs : List Int} {n b : Nat} : ∀ m way, m < n → way ≠ [] → lv xs n b n (lastN way) = (m : Int) → (∀ x ∈ way, (m : Int) ≤ lv xs n b n x) → dfs xs n (wB b) m way = some (way ++ gw xs n b m (lastN way)) := by
  intro m
  induction m with
  | zero =>
    intro way hm hw h ha
    have : lastN way = b := lv_zero h
    rw [dfs, if_pos (by simp [wB, this])]
    simp [gw]
  | succ m ih =>
    intro way hm hw h ha
    obtain ⟨hf, hmem, hv⟩ := nxt_find h
    have e : dfs xs n (wB b) (m + 1) way = (memN (winsN xs (lastN way)) n).findSome? fun c => if (!way.contains c) = true then dfs xs n (wB b) m (way ++ [c]) else none := by
      have : ∀ (l : List Nat) (p : Nat → Bool) (F : Nat → Option (List Nat)), (l.filter p).findSome? F = l.findSome? fun b => if p b = true then F b else none := by
        intro l p F
        induction l with
        | nil => rfl
        | cons x l ih =>
          rcases q : p x with _ | _
          · rw [List.filter_cons_of_neg (by simp [q]), ih, List.findSome?_cons]; simp [q]
          · rw [List.filter_cons_of_pos q, List.findSome?_cons, List.findSome?_cons, ih]; simp [q]
      exact this _ _ _
    rw [e]
    refine find_some hf (fun c hc hp => ?_) ?_
    · split
      · rcases q : dfs xs n (wB b) m (way ++ [c]) with _ | L
        · rfl
        · have h1 := dfs_lv m (way ++ [c]) L (by omega) (by simp) q
          rw [lastN_snoc] at h1
          obtain ⟨d, hd⟩ := Int.eq_ofNat_of_zero_le h1.1
          have h2 := lv_step hc hd (by omega)
          have : ¬ lv xs n b n c = (m : Int) := by simpa using hp
          omega
      · rfl
    · have hni : ¬ nxt xs n b m (lastN way) ∈ way := fun hm => by have := ha _ hm; omega
      rw [if_pos (by simpa using hni), ih (way ++ [nxt xs n b m (lastN way)]) (by omega) (by simp) (by rw [lastN_snoc]; exact hv) (fun x hx => by
        rw [List.mem_append, List.mem_singleton] at hx
        rcases hx with hx | rfl
        · have := ha x hx; omega
        · omega), lastN_snoc, gw, List.append_assoc]
      rfl
noncomputable def wbOk (s : Int) (xs : List Int) (a b : Int) : Bool := tourB s xs && inB a 0 (s - 1) && inB b 0 (s - 1)
noncomputable def wbO (s : Int) (xs : List Int) (a b : Int) : Option (List Nat) :=
  if wbOk s xs a b = true then (if lv xs xs.length b.toNat xs.length a.toNat < 0 then none else some (a.toNat :: gw xs xs.length b.toNat (lv xs xs.length b.toNat xs.length a.toNat).toNat a.toNat)) else none
noncomputable def wbL (s : Int) (xs : List Int) (a b : Int) : List Int := nI ((wbO s xs a b).getD [])
theorem wbO_no {s : Int} {xs : List Int} {a b : Int} (h : wbOk s xs a b = false) : wbO s xs a b = none := by simp [wbO, h]
theorem wbL_len (s : Int) (xs : List Int) (a b : Int) : (wbL s xs a b).length ≤ 16 := by
  unfold wbL
  rw [nI_len]
  unfold wbO
  split
  · rename_i h
    unfold wbOk at h
    rw [Bool.and_eq_true, Bool.and_eq_true] at h
    have hp := tourB_true.1 h.1.1
    have h2 := hp.1
    have h3 := hp.2.1
    split
    · simp
    · have := (lv_bd xs xs.length b.toNat xs.length a.toNat).2
      simp [gw_len]
      omega
  · simp
/-- the first length that leads there -/
theorem wb_hit {xs : List Int} {n a b k : Nat} {L : List Nat} (hk : k < n) (h0 : ∀ j, j < k → dfs xs n (wB b) j [a] = none) (h : dfs xs n (wB b) k [a] = some L) : lv xs n b n a = (k : Int) ∧ L = a :: gw xs n b k a := by
  have h1 := dfs_lv k [a] L hk (by simp) h
  have e : lastN [a] = a := rfl
  rw [e] at h1
  obtain ⟨d, hd⟩ := Int.eq_ofNat_of_zero_le h1.1
  have h2 := dfs_gw d [a] (by omega) (by simp) hd (fun x hx => by simp at hx; subst hx; omega)
  have hdk : d = k := by
    rcases Nat.lt_or_ge d k with h3 | h3
    · rw [h0 d h3] at h2; cases h2
    · omega
  subst hdk
  rw [h] at h2
  injection h2 with h2
  exact ⟨hd, h2⟩
theorem wb_miss {xs : List Int} {n a b : Nat} (ha : a < n) (h0 : ∀ j, j < n → dfs xs n (wB b) j [a] = none) : lv xs n b n a < 0 := by
  rcases Int.lt_or_le (lv xs n b n a) 0 with h | h
  · exact h
  · obtain ⟨d, hd⟩ := Int.eq_ofNat_of_zero_le h
    have h1 := lv_top ha hd
    have h2 := dfs_gw d [a] h1 (by simp) hd (fun x hx => by simp at hx; subst hx; omega)
    rw [h0 d h1] at h2
    cases h2
end Go.Proofs.Ytkcffjojklmbpaa
