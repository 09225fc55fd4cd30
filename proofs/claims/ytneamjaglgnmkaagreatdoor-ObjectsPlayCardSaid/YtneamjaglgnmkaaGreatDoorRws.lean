/- Slices of rows of numbers (structs whose fields are numbers), as they lie in memory. -/
import Derived.Test.YtneamjaglgnmkaaGreatDoorBase
namespace Tk
open Go Go.RowKit Go.Shelf
/-- From A on there are n rows; the j-th number of row i is R i j, of kind ks j. -/
def RowsA (w : World) (ks : List IntKind) (A : Option Addr) (n : Nat) (R : Nat → Nat → Int) : Prop :=
  n = 0 ∨ ∃ b o, A = some ⟨b, o, none⟩ ∧ b < w.heap.size ∧ ∀ i, i < n → ∀ j, j < ks.length → w.cell? ⟨b, o + i * ks.length + j, none⟩ = some (.int (ks.getD j .u8) (R i j))
theorem RowsA.kept {w w' : World} {ks : List IntKind} {A : Option Addr} {n : Nat} {R : Nat → Nat → Int} (h : RowsA w ks A n R) (hg : w.grownBy w' none) : RowsA w' ks A n R := by
  refine h.imp id ?_
  rintro ⟨b, o, hA, h2, hc⟩
  refine ⟨b, o, hA, Nat.lt_of_lt_of_le h2 hg.size, fun i hi j hj => ?_⟩
  rw [← hc i hi j hj]
  exact World.cell?_of_block (w := w) (hg.block b h2 (by simp))
theorem RowsA.at {w : World} {ks : List IntKind} {A : Option Addr} {n : Nat} {R : Nat → Nat → Int} (h : RowsA w ks A n R) {i : Nat} (hi : i < n) :
    ∃ b o, A = some ⟨b, o, none⟩ ∧ b < w.heap.size ∧ ∀ j, j < ks.length → w.cell? ⟨b, o + i * ks.length + j, none⟩ = some (.int (ks.getD j .u8) (R i j)) := by
  rcases h with h | ⟨b, o, hA, h2, hc⟩
  · omega
  · exact ⟨b, o, hA, h2, hc i hi⟩
end Tk
