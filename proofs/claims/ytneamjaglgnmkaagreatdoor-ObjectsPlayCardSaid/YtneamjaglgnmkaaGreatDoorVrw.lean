/- Slices of rows of numbers and bools that came in. -/
import Derived.Test.YtneamjaglgnmkaaGreatDoorBase
namespace Tk
open Go Go.RowKit Go.Shelf
/-- A number of that kind; a bool. -/
def Fit : Option IntKind → Value → Prop
  | some k, v => ∃ x, v = .int k x ∧ (Lit.int k x).wf = true
  | none, v => ∃ b, v = .bool b
/-- From A on there are n rows of m cells; the j-th of row i is V i j. -/
def VRow (w : World) (m : Nat) (A : Option Addr) (n : Nat) (V : Nat → Nat → Value) : Prop :=
  n = 0 ∨ ∃ b o, A = some ⟨b, o, none⟩ ∧ b < w.heap.size ∧ ∀ i, i < n → ∀ j, j < m → w.cell? ⟨b, o + i * m + j, none⟩ = some (V i j)
theorem VRow.kept {w w' : World} {m : Nat} {A : Option Addr} {n : Nat} {V : Nat → Nat → Value} (h : VRow w m A n V) (hg : w.grownBy w' none) : VRow w' m A n V := by
  refine h.imp id ?_
  rintro ⟨b, o, hA, h2, hc⟩
  refine ⟨b, o, hA, Nat.lt_of_lt_of_le h2 hg.size, fun i hi j hj => ?_⟩
  rw [← hc i hi j hj]
  exact World.cell?_of_block (w := w) (hg.block b h2 (by simp))
theorem VRow.at {w : World} {m : Nat} {A : Option Addr} {n : Nat} {V : Nat → Nat → Value} (h : VRow w m A n V) {i : Nat} (hi : i < n) :
    ∃ b o, A = some ⟨b, o, none⟩ ∧ b < w.heap.size ∧ ∀ j, j < m → w.cell? ⟨b, o + i * m + j, none⟩ = some (V i j) := by
  rcases h with h | ⟨b, o, hA, h2, hc⟩
  · omega
  · exact ⟨b, o, hA, h2, hc i hi⟩
end Tk
