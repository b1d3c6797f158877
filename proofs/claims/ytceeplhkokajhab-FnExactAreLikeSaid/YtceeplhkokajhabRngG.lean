/- A range over a function whose iterator keeps state of its own in cells, and whose rounds keep blocks that they have laid: protected blocks. -/
import Derived.Test.YtceeplhkokajhabRngF
namespace Go.Proofs.Ytceeplhkokajhab
open Go.RowKit Go.Sort
set_option maxRecDepth 100000
/-- what is said of a world, and of the blocks that must stay, outlives new blocks and turns of other blocks from B on -/
def AbP {β : Type} (B : Nat) (J : β → (Nat → Prop) → World → Prop) : Prop := ∀ s Pt W W' row, J s Pt W → W.grownBy W' row → (∀ r, row = some r → B ≤ r ∧ ¬ Pt r) → J s Pt W'
def SeqAllP {β : Type} (P : Program) (gf : Nat) (lb : Array Value) (cb : Nat) (En : World → β → Value → Prop) (all : List β) (w0 : World) : Prop :=
  ∀ (l : Nat) (J : List β → (Nat → Prop) → World → Prop) (W : World), Below w0.heap.size w0 W → AbP W.heap.size J →
    (∀ pre Pt x v W1, J pre Pt W1 → (∀ r, Pt r → r < W1.heap.size ∧ W.heap.size ≤ r) → En W1 x v → x ∈ all → YieldAt Fence.wide 0 P l #[v] W1 fun e W' => e = .returned (.bool true) ∧ ∃ Pt', J (pre ++ [x]) Pt' W' ∧ (∀ r, Pt' r → r < W'.heap.size ∧ (Pt r ∨ W1.heap.size ≤ r)) ∧ KpC cb W1 W') →
    J [] (fun _ => False) W → Calls P gf (#[.func (.yield l) #[] #[]] ++ lb) W fun e W' => (∃ v, e = .returned v) ∧ ∃ Pt, J all Pt W'
def postP {β : Type} (cb : Nat) (I : List β → (Nat → Prop) → World → Prop) (xs : List β) (Pt : Nat → Prop) (W : World) : Exit → Act → World → Prop
  | .normal, _, W' => W.grownBy W' (some cb) ∧ ∃ Pt', I xs Pt' W' ∧ (∀ r, Pt' r → r < W'.heap.size ∧ (Pt r ∨ W.heap.size ≤ r))
  | .ret, _, _ => False
  | .exit _, _, _ => False
  | .goto _, _, _ => False
  | .panic _, _, _ => False
  | .outgrown, _, _ => False
theorem AbP.putObj {β : Type} {B : Nat} {I : β → (Nat → Prop) → World → Prop} (h : AbP B I) {s : β} {Pt : Nat → Prop} {W : World} {l : Nat} (o' : Obj) (hs : I s Pt W) (hB : B ≤ l) (hp : ¬ Pt l) : I s Pt (W.putObj l o') :=
  h s Pt W _ (some l) hs (grownBy_putObj' W l o') (fun r e => by cases e; exact ⟨hB, hp⟩)
theorem AbP.alloc {β : Type} {B : Nat} {I : β → (Nat → Prop) → World → Prop} (h : AbP B I) {s : β} {Pt : Nat → Prop} {W : World} (o : Obj) (hs : I s Pt W) : I s Pt (W.alloc o) :=
  h s Pt W _ none hs (World.grownBy_alloc W o none) (fun r e => by cases e)
theorem wp_rangeFunc_allP {P : Program} {β : Type} {g : Operand} {ps : Array Tmp} {assign body : Code} {Q : Exit → Act → World → Prop} {a : Act} {w : World} {gf : Nat} {lb : Array Value} (hg : a.eval g = .func (.func gf) #[] lb) (eg : ∀ args w, (callFunc gf args).run P w = .ok (.enter gf args) w)
    {cb : Nat} {En : World → β → Value → Prop} {all : List β} {w0 : World} (hseq : SeqAllP P gf lb cb En all w0) (hb0 : Below w0.heap.size w0 w) (hcb : cb < w.heap.size) (hps : ps.size = 1)
    (hEn : ∀ W l o o' x v, W.heap[l]? = some o → o.isCells = false → En W x v → En (W.putObj l o') x v)
    (I : List β → (Nat → Prop) → World → Prop) (hI : AbP w.heap.size I) (h0 : I [] (fun _ => False) w) (a₁ : Value → Act)
    (hassign : ∀ (l : Nat) (v : Value) (W : World) (K : Act → World → Prop), K (a₁ v) W →
      assign.wpIn (Fence.wide.inRound l) 0 P (Exit.then K (fun _ _ _ => False)) { tmps := (ps.zip #[v]).foldl (fun t (p, v) => t.setIfInBounds p v) a.tmps, defers := [] } W)
    (hbody : ∀ (l : Nat) (pre : List β) (Pt : Nat → Prop) (x : β) (v : Value) (W : World), I pre Pt W → (∀ r, Pt r → r < W.heap.size ∧ w.heap.size + 1 < r) → En W x v → x ∈ all → w.heap.size ≤ W.heap.size → body.wpIn (Fence.wide.inRound l) 0 P (postP cb I (pre ++ [x]) Pt W) (a₁ v) W)
    (hdone : ∀ (D : Nat) (Pt : Nat → Prop) (W : World), w.heap.size ≤ D → I all Pt W → W.heap[D]? = some (.deferred (some [])) → Q .normal { a with defers := { target := .collected D, args := #[] } :: a.defers } W) :
    (Code.rangeFunc g ps assign body).wp P Q a w := by
  refine (wpIn_wide (n := 1)).1 (wpIn_rangeFunc ?_)
  intro fn hfn
  rw [show Fence.wide.round = none from rfl]
  obtain ⟨rec, hrec⟩ : ∃ rec : LoopState → Option Code → Loop, rec = fun st pe => { state := st, pending := pe, fn, tmps := a.tmps, params := ps, assign, body, defers := w.heap.size } := ⟨_, rfl⟩
  obtain ⟨W1, hW1⟩ : ∃ W1, (w.alloc (.deferred (some []))).alloc (.loop (rec .ready none)) = W1 := ⟨_, rfl⟩
  have hsz1 : W1.heap.size = w.heap.size + 1 + 1 := by rw [← hW1]; simp
  have hL1 : W1.heap[w.heap.size + 1]? = some (.loop (rec .ready none)) := by
    rw [← hW1]
    have := World.alloc_heap_new (w.alloc (.deferred (some []))) (.loop (rec .ready none))
    rwa [World.size_alloc] at this
  have hK1 : W1.heap[w.heap.size]? = some (.deferred (some [])) := by
    rw [← hW1]; exact (Below.heap_alloc _ _ _ (by simp)).trans (World.alloc_heap_new w _)
  have hI1 : I [] (fun _ => False) W1 := by rw [← hW1]; exact hI.alloc _ (hI.alloc _ h0)
  have hb1 : Below w0.heap.size w0 W1 := by
    rw [← hW1]; exact hb0.trans ((((Below.refl _ w).alloc (Nat.le_refl _) _).alloc (by simp) _).mono hb0.size)
  refine ⟨w.heap.size + 1, [{ target := .collected w.heap.size, args := #[] }], W1, { target := .fn (.func gf) lb, args := #[.func (.yield (w.heap.size + 1)) #[] #[]] }, W1, gf,
    #[.func (.yield (w.heap.size + 1)) #[] #[]] ++ lb, W1, ?_, ?_, fun _ _ => trivial, ?_, (fun h => by cases h), callsIn_wide.2 ?_⟩
  · rw [← hW1, hrec]; exact run_enterLoop_outer _ _ _ _ _
  · simp only [resolve, hg]
    simp [go_sem]
  · simp [invoke, go_sem, eg]
  · refine (hseq (w.heap.size + 1)
      (fun pre Pt W => (I pre Pt W ∧ ∀ r, Pt r → w.heap.size + 1 < r) ∧ W.heap[w.heap.size + 1]? = some (.loop (rec .ready none)) ∧ W.heap[w.heap.size]? = some (.deferred (some [])))
      W1 hb1 (fun s Pt A B row hs hg' hr => ?_) ?_ ⟨⟨hI1, fun _ h => h.elim⟩, hL1, hK1⟩).mono ?_
    · have k : ∀ (i : Nat) (o : Obj), i < W1.heap.size → A.heap[i]? = some o → B.heap[i]? = some o := fun i o hi ho =>
        (hg'.block i (Array.getElem?_eq_some_iff.1 ho).1 (fun e => by have := (hr i e.symm).1; omega)).trans ho
      exact ⟨⟨hI s Pt A B row hs.1.1 hg' (fun r e => ⟨by have := (hr r e).1; omega, (hr r e).2⟩), hs.1.2⟩, k _ _ (by omega) hs.2.1, k _ _ (by omega) hs.2.2⟩
    · rintro pre Pt x v W ⟨⟨hi, hpb⟩, hl, hk⟩ hpt hen hmem
      have hlt : w.heap.size + 1 < W.heap.size := (Array.getElem?_eq_some_iff.1 hl).1
      have hy := run_yield (P := P) (args := #[v]) hl (by rw [hrec]; exact hps.symm)
      rw [hrec] at hy
      refine ⟨fn, _, assign, body, hy, roundIn_of_wpIn hfn (hassign _ v W _ ⟨_, run_beginRound hl (by rw [hrec]), ?_⟩)⟩
      have hl2 : (W.putObj (w.heap.size + 1) (.loop { rec .ready none with state := .busy })).heap[w.heap.size + 1]? = some (.loop { rec .ready none with state := .busy }) := World.putObj_heap_same hlt
      have hk2 : (W.putObj (w.heap.size + 1) (.loop { rec .ready none with state := .busy })).heap[w.heap.size]? = some (.deferred (some [])) := (World.putObj_heap_other (by omega)).trans hk
      refine wpIn_mono (hbody _ pre Pt x v _ (hI.putObj _ hi (by omega) (fun h => by have := (hpt _ h).2; omega)) (fun r h => ⟨by simpa using (hpt r h).1, by have := (hpt r h).2; omega⟩) (hEn _ _ _ _ _ _ hl rfl hen) hmem (by simp; omega)) ?_
      rintro e a3 W3 hp
      cases e with
      | normal =>
        obtain ⟨hg3, Pt3, hi3, hp3⟩ := hp
        have hn3 : ∀ r, Pt3 r → w.heap.size + 1 < r := fun r h => by
          rcases (hp3 r h).2 with h1 | h1
          · have := (hpt r h1).2; omega
          · simp at h1; omega
        have hl3 : W3.heap[w.heap.size + 1]? = some (.loop { rec .ready none with state := .busy }) := (hg3.block _ (by simp; omega) (fun e => by injection e; omega)).trans hl2
        have hk3 : W3.heap[w.heap.size]? = some (.deferred (some [])) := (hg3.block _ (by simp; omega) (fun e => by injection e; omega)).trans hk2
        have hr := run_endRound (P := P) none hl3
        refine ⟨_, _, hr, rfl, Pt3, ⟨⟨hI.putObj _ hi3 (by omega) (fun h => by have := hn3 _ h; omega), hn3⟩, ?_, (World.putObj_heap_other (by omega)).trans hk3⟩, fun r h => ⟨by simpa using (hp3 r h).1, by simpa using (hp3 r h).2⟩, ?_⟩
        · rw [World.putObj_heap_same (Array.getElem?_eq_some_iff.1 hl3).1, hrec]; rfl
        · exact ((KpC.of_put _ hl rfl).trans (KpC.of_grown hg3)).trans (KpC.of_put _ hl3 rfl)
      | ret => exact hp.elim
      | exit id => exact hp.elim
      | goto t => exact hp.elim
      | panic ch => exact hp.elim
      | outgrown => exact hp.elim
    · rintro e W2 ⟨⟨v, rfl⟩, Pt, ⟨hi, hpt⟩, hl, hk⟩
      exact ⟨none, _, by have := run_endLoop (P := P) hl (by rw [hrec]; simp); rw [hrec] at this; exact this, hdone _ _ _ (Nat.le_refl _) (hI.putObj _ hi (by omega) (fun h => by have := hpt _ h; omega)) ((World.putObj_heap_other (by omega)).trans hk)⟩
end Go.Proofs.Ytceeplhkokajhab
