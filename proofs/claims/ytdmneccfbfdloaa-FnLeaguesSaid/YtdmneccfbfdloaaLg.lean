/- Leagues: words for slices of results. -/
import Derived.Test.YtdmneccfbfdloaaRes
import Derived.Test.YtdmneccfbfdloaaBox
import Derived.Deep.Slices
import Derived.Deep.Fields
namespace Go.Proofs.Ytdmneccfbfdloaa
open Go.ChangeShapes Go.WideShapes Go.ChangeAt Go.RowKit Go.Joins Go.Deep
set_option maxRecDepth 100000

/-- a result: home, away, given, taken -/
abbrev R4 := Int × Int × Int × Int
def r4At (rs : List R4) (k : Nat) : R4 := rs.getD k (0, 0, 0, 0)
/-- four cells from here on -/
def Four (w : World) (b o : Nat) (r : R4) : Prop := w.cell? ⟨b, o, none⟩ = some (.int .i64 r.1) ∧ w.cell? ⟨b, o + 1, none⟩ = some (.int .i64 r.2.1) ∧ w.cell? ⟨b, o + 2, none⟩ = some (.int .i64 r.2.2.1) ∧ w.cell? ⟨b, o + 3, none⟩ = some (.int .i64 r.2.2.2)
theorem Four.keep {w w' : World} {b o : Nat} {r : R4} (h : Four w b o r) (hk : ∀ p : Addr, p.block = b → w'.cell? p = w.cell? p) : Four w' b o r :=
  ⟨(hk _ rfl).trans h.1, (hk _ rfl).trans h.2.1, (hk _ rfl).trans h.2.2.1, (hk _ rfl).trans h.2.2.2⟩
/-- THE SLICE VALUE v READS AS THE RESULTS rs. -/
def RdR (w : World) (v : Value) (rs : List R4) : Prop :=
  ∃ (A : Option Addr) (c : Nat), v = .slice A rs.length c ∧ rs.length ≤ c ∧ c ≤ maxLen ∧
    (0 < rs.length → ∃ b off, A = some ⟨b, off, none⟩ ∧ b < w.heap.size ∧ ∀ k, k < rs.length → Four w b (off + k * 4) (r4At rs k))
theorem RdR.keep {w w' : World} {v : Value} {rs : List R4} (h : RdR w v rs) (hs : w.heap.size ≤ w'.heap.size) (hk : ∀ p : Addr, p.block < w.heap.size → w'.cell? p = w.cell? p) : RdR w' v rs := by
  obtain ⟨A, c, rfl, hl, hc, hb⟩ := h
  refine ⟨A, c, rfl, hl, hc, fun h0 => ?_⟩
  obtain ⟨b, off, rfl, hlt, hcell⟩ := hb h0
  exact ⟨b, off, rfl, by omega, fun k hk' => (hcell k hk').keep fun p hp => hk p (by omega)⟩
theorem RdR.below {w w' : World} {v : Value} {rs : List R4} (h : RdR w v rs) (hb : Below w.heap.size w w') : RdR w' v rs := h.keep hb.size fun _ hp => hb.cell hp
theorem RdR.alloc {w : World} {v : Value} {rs : List R4} (h : RdR w v rs) (o : Obj) : RdR (w.alloc o) v rs := h.below ((Below.refl _ _).alloc (Nat.le_refl _) _)
theorem RdR.nil_ (w : World) : RdR w (.slice none 0 0) [] := ⟨none, 0, rfl, Nat.le_refl _, by unfold maxLen; omega, fun h => absurd h (by simp)⟩
def I64R (rs : List R4) : Prop := ∀ r ∈ rs, ResB r.1 r.2.1 r.2.2.1 r.2.2.2

/-- the cells of the results, one behind the other -/
def cells4 (r : R4) : List Value := [.int .i64 r.1, .int .i64 r.2.1, .int .i64 r.2.2.1, .int .i64 r.2.2.2]
def flat4 (rs : List R4) : List Value := rs.flatMap cells4
theorem flat4_length (rs : List R4) : (flat4 rs).length = rs.length * 4 := by
  induction rs with
  | nil => rfl
  | cons r rs ih => simp only [flat4, List.flatMap_cons, List.length_append, List.length_cons] at *; rw [ih]; simp [cells4]; omega
theorem flat4_append (rs ts : List R4) : flat4 (rs ++ ts) = flat4 rs ++ flat4 ts := by simp [flat4]
theorem flat4_at (rs : List R4) (k : Nat) (hk : k < rs.length) (i : Nat) (hi : i < 4) : (flat4 rs)[k * 4 + i]? = (cells4 (r4At rs k))[i]? := by
  induction rs generalizing k with
  | nil => simp at hk
  | cons r rs ih =>
    have e : flat4 (r :: rs) = cells4 r ++ flat4 rs := by simp [flat4]
    rw [e]
    cases k with
    | zero =>
      rw [List.getElem?_append_left (by simp [cells4]; omega)]
      simp [r4At]
    | succ k =>
      rw [List.getElem?_append_right (by simp [cells4]; omega)]
      have := ih k (by simpa using hk)
      rw [show (k + 1) * 4 + i - (cells4 r).length = k * 4 + i by simp [cells4]; omega, this]
      simp [r4At]

/-- THE SLICE VALUE v IS NIL OR LIES AT THE HEAD OF A BLOCK FROM base ON, and holds the results rs. -/
def OwnR (w : World) (base : Nat) (v : Value) (rs : List R4) : Prop := w.ownsRow base 52 4 v rs.length (flat4 rs)
theorem OwnR.rd {w : World} {base : Nat} {v : Value} {rs : List R4} (h : OwnR w base v rs) : RdR w v rs := by
  have hc := fun g hg => World.ownsRow.cells h (g := g) hg
  have hlt := World.ownsRow.lt h
  rcases h.2 with ⟨rfl, h0⟩ | ⟨g, cap, cur, rfl, hb, hg, hle, hm, hs, ht⟩
  · have hx : rs = [] := List.eq_nil_of_length_eq_zero h0
    subst hx
    exact RdR.nil_ w
  · refine ⟨_, cap, rfl, hle, hm, fun _ => ⟨g, 0, rfl, (hlt g rfl).2, fun k hk => ?_⟩⟩
    have q : ∀ i, i < 4 → ∀ u, (cells4 (r4At rs k))[i]? = some u → w.cell? ⟨g, 0 + k * 4 + i, none⟩ = some u := fun i hi u hu => by
      have := hc g rfl (k * 4 + i) u (by rw [flat4_at rs k hk i hi]; exact hu)
      rw [Addr.add_lit] at this
      rw [← this]
      congr 2
      omega
    exact ⟨q 0 (by omega) _ rfl, q 1 (by omega) _ rfl, q 2 (by omega) _ rfl, q 3 (by omega) _ rfl⟩
theorem OwnR.mono {w : World} {b b' : Nat} {v : Value} {rs : List R4} (h : OwnR w b v rs) (hb : b' ≤ b) : OwnR w b' v rs := by
  refine ⟨h.1, ?_⟩
  rcases h.2 with h0 | ⟨g, cap, cur, hv, hg, r⟩
  · exact .inl h0
  · exact .inr ⟨g, cap, cur, hv, by omega, r⟩
theorem OwnR.lt {w : World} {base : Nat} {v : Value} {rs : List R4} (h : OwnR w base v rs) : ∀ k, v.ownBlock = some k → base ≤ k ∧ k < w.heap.size := World.ownsRow.lt h
theorem OwnR.below {w w' : World} {base : Nat} {v : Value} {rs : List R4} (h : OwnR w base v rs) (hb : Below w.heap.size w w') : OwnR w' base v rs := by
  refine ⟨h.1, ?_⟩
  rcases h.2 with h0 | ⟨g, cap, cur, hv, hg, hh, r⟩
  · exact .inl h0
  · exact .inr ⟨g, cap, cur, hv, hg, by rw [hb.block g (Array.getElem?_eq_some_iff.1 hh).1]; exact hh, r⟩
theorem OwnR.alloc {w : World} {base : Nat} {v : Value} {rs : List R4} (h : OwnR w base v rs) (o : Obj) : OwnR (w.alloc o) base v rs := World.ownsRow.alloc h o
theorem OwnR.kept {w w' : World} {base : Nat} {v : Value} {rs : List R4} {row : Option Nat} (h : OwnR w base v rs) (hg : w.grownBy w' row) (hne : v.ownBlock = none ∨ v.ownBlock ≠ row) : OwnR w' base v rs := World.ownsRow.kept h hg hne
theorem OwnR.apart {w w' : World} {base base' : Nat} {v v' : Value} {rs ts : List R4} (h : OwnR w base v rs) (h' : OwnR w' base' v' ts) (hb : w.heap.size ≤ base') : v.ownBlock = none ∨ v.ownBlock ≠ v'.ownBlock := by
  rcases hv : v.ownBlock with _ | g
  · exact .inl rfl
  · right
    intro e
    have h1 := h.lt g hv
    have h2 := h'.lt g (by rw [← e])
    omega
theorem OwnR.form {w : World} {base : Nat} {v : Value} {rs : List R4} (h : OwnR w base v rs) :
    ∃ A c, v = .slice A rs.length c ∧ c ≤ maxLen ∧ rs.length ≤ c ∧ (0 < rs.length → ∃ g, A = some ⟨g, 0, none⟩ ∧ base ≤ g ∧ g < w.heap.size) := by
  have hl := h.lt
  rcases h.2 with ⟨rfl, e⟩ | ⟨g, cap, cur, rfl, hb, hg, hle, hm, _⟩
  · exact ⟨none, 0, by rw [e], by unfold maxLen; omega, by omega, fun h => absurd h (by omega)⟩
  · exact ⟨_, cap, rfl, hm, hle, fun _ => ⟨g, rfl, hb, (hl g rfl).2⟩⟩
theorem OwnR.nil_ (w : World) (base : Nat) : OwnR w base (.slice none 0 0) [] := World.ownsRow_nil _ _ _ _
end Go.Proofs.Ytdmneccfbfdloaa
