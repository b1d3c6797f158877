/- wayOn: the first way in depth first order. -/
import Derived.Test.YtceeplhkokajhabDfs
import Derived.Test.YtceeplhkokajhabHof
import Derived.Test.YtceeplhkokajhabClone
import Derived.Lib.SliceRun
namespace Go.Proofs.Ytceeplhkokajhab
open Go.RowKit Go.Sort
set_option maxRecDepth 100000
theorem run_neq_slice_nil {P : Program} (w : World) (t e : TypeId) (a : Option Addr) (n c n' c' : Nat) (h : P.underlying t = some (.slice e)) :
    (binOp .neq t (.slice a n c) (.slice none n' c')).run P w = .ok (.bool (!a.isNone)) w := by
  simp only [binOp]
  simp [Op.equal, Op.maxDepth, Lib.run_equalIn_slice_nil w 9999 t e a n c n' c' h]
theorem grown_new {a b c : World} {row row' : Option Nat} (h : a.grownBy b row) (k : b.grownBy c row') (hn : ∀ g, row' = some g → a.heap.size ≤ g ∨ some g = row) : a.grownBy c row :=
  ⟨k.os.trans h.os, k.tape.trans h.tape, k.output.trans h.output, Nat.le_trans h.size k.size, fun i hi hne => (k.block i (Nat.lt_of_lt_of_le hi h.size) (fun e => by
    rcases hn i e.symm with h1 | h1
    · omega
    · exact hne h1)).trans (h.block i hi hne)⟩
theorem grown_below {a b : World} (h : Below a.heap.size a b) (row : Option Nat) : a.grownBy b row := ⟨h.os, h.tape, h.output, h.size, fun i hi _ => h.block i hi⟩
theorem below_of_grown {C a b : World} {row : Option Nat} (h : Below C.heap.size C a) (k : a.grownBy b row) (hr : ∀ g, row = some g → C.heap.size ≤ g) : Below C.heap.size C b := h.grown k h.size hr
theorem memN_at' {S n b : Nat} (h : b ∈ memN S n) : b < n := (mem_memN.1 h).1
theorem cell_new1 (w : World) (x : Value) (t : TypeId) : (w.alloc (.cells #[x] t)).cell? ⟨w.heap.size, 0, none⟩ = some x := by simp
theorem ne5 {W : World} {B g g5 q l c c5 : Nat} (hB : B < W.heap.size) (hg : B ≠ g) (hat : Value.slice (some ⟨g, 0, none⟩) q c = .slice (some ⟨g5, 0, none⟩) l c5 ∨ g5 = W.heap.size) : some B ≠ (Value.slice (some ⟨g5, 0, none⟩) (l + 1) c5).ownBlock := by
  intro h
  injection h with h
  have h : B = g5 := h
  rcases hat with e | e
  · injection e with e1 _ _
    injection e1 with e1
    injection e1 with e1 _ _
    omega
  · omega
def WantP (F : FuncId) (caps : Array Value) (want : List Nat → Bool) (k n : Nat) (wC : World) : Prop :=
  ∀ (way : List Nat) (v : Value) (W : World), way.length = k → (∀ x ∈ way, x < n) → Below wC.heap.size wC W → Rd W v (nI way) →
    Calls Try.prog F (#[v] ++ caps) W fun e w'' => e = .returned (.bool (want way)) ∧ Below W.heap.size W w''
end Go.Proofs.Ytceeplhkokajhab
