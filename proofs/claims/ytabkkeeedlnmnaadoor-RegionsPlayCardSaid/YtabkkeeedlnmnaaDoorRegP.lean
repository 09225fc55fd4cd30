/- RegionsPlay: a region and the reference's beside each other, with the twin and the act's own block. -/
import Derived.Test.YtabkkeeedlnmnaaDoorRegRef5
namespace Go.Proofs.YtabkkeeedlnmnaaDoor
open Go.RowKit Go.Shelf Tk
set_option linter.unusedVariables false
set_option linter.unusedSimpArgs false
/-- Region B, M; reference R; a block G (the twin's) that nothing writes. -/
structure RPW (w0 w : World) (B M R m G : Nat) (o : Option Obj) (xsA xsB : List Int) (v : Value) : Prop where
  reg : Reg w B M xsA
  ref : RefR.RQ w R m v xsB
  dis : ¬ RefR.OwnQ R v B ∧ ¬ RefR.OwnQ R v M ∧ ¬ RefR.OwnQ R v G ∧ G ≠ M ∧ G ≠ B
  lo : w0.heap.size ≤ B ∧ w0.heap.size ≤ M ∧ ∀ b, RefR.OwnQ R v b → w0.heap.size ≤ b
  tw : G < w.heap.size ∧ w.heap[G]? = o
  g : w0.grownBy w none
def RP (w0 w : World) (B M R m G : Nat) (o : Option Obj) (xsA xsB : List Int) : Prop := ∃ v, RPW w0 w B M R m G o xsA xsB v
variable {w0 w w' : World} {B M R m G : Nat} {o : Option Obj} {xsA xsB ms' : List Int}
theorem grown_new' {S : Nat → Prop} (h : w0.grownBy w none) (g : Fr S w w') (hs : ∀ b, S b → w0.heap.size ≤ b) : w0.grownBy w' none :=
  ((Fr.of_grown (S := fun k => w0.heap.size ≤ k) h (by simp)).trans (g.mono fun k _ => hs k)).grown (fun k hk h => absurd h (by omega))
theorem RP.keep (h : RP w0 w B M R m G o xsA xsB) (g : w.grownBy w' none) : RP w0 w' B M R m G o xsA xsB := by
  obtain ⟨v, h⟩ := h
  exact ⟨v, h.reg.keep g, h.ref.keep g, h.dis, h.lo, ⟨Nat.lt_of_lt_of_le h.tw.1 g.size, (g.block G h.tw.1 (by simp)).trans h.tw.2⟩, grown_trans h.g g⟩
theorem RP.reg (h : RP w0 w B M R m G o xsA xsB) : Reg w B M xsA := by obtain ⟨v, h⟩ := h; exact h.reg
theorem RP.g (h : RP w0 w B M R m G o xsA xsB) : w0.grownBy w none := by obtain ⟨v, h⟩ := h; exact h.g
theorem RP.tw (h : RP w0 w B M R m G o xsA xsB) : w.heap[G]? = o := by obtain ⟨v, h⟩ := h; exact h.tw.2
/-- The region's step. -/
theorem RP.obj (h : RP w0 w B M R m G o xsA xsB) (g : w.grownBy w' (some M)) (hq : Reg w' B M ms') : RP w0 w' B M R m G o ms' xsB := by
  obtain ⟨v, h⟩ := h
  have fg : Fr (fun b => b = M) w w' := Fr.of_grown g (fun k e _ => by cases e; rfl)
  exact ⟨v, hq, h.ref.fr fg (fun b hb e => h.dis.2.1 (e ▸ hb)), h.dis, h.lo, ⟨Nat.lt_of_lt_of_le h.tw.1 g.size, (g.block G h.tw.1 (fun e => h.dis.2.2.2.1 (by cases e; rfl))).trans h.tw.2⟩, grown_new' h.g fg (fun b e => by rw [e]; exact h.lo.2.1)⟩
/-- The reference's step. -/
theorem RP.step {F : Nat} {args : Array Value} {E : Ending → Prop} (h : RP w0 w B M R m G o xsA xsB) (hc : ∀ v, RefR.RQ w R m v xsB → Calls Tryd.prog F args w fun e w' => E e ∧ RefR.Post w R m v ms' w') :
    Calls Tryd.prog F args w fun e w' => E e ∧ RP w0 w' B M R m G o xsA ms' := by
  obtain ⟨v, h⟩ := h
  refine (hc v h.ref).mono ?_
  rintro e w' ⟨he, v', hR, hF, hat⟩
  have hBl := h.reg.hdr.lt
  have hMl := h.reg.row.lt
  have hGl := h.tw.1
  have hQ : ∀ b, RefR.OwnQ R v' b → RefR.OwnQ R v b ∨ w.heap.size ≤ b := by
    rintro b (e | e)
    · exact .inl (.inl e)
    · exact (hat b e).imp .inr id
  have no : ∀ b, b < w.heap.size → ¬ RefR.OwnQ R v b → ¬ RefR.OwnQ R v' b := fun b hb hn hq => by
    rcases hQ b hq with h1 | h1
    · exact hn h1
    · omega
  refine ⟨he, v', ⟨h.reg.hdr.fr hF h.dis.1, h.reg.row.of_block (hF.block M hMl h.dis.2.1), h.reg.ne, h.reg.fit⟩, hR, ⟨no B hBl h.dis.1, no M hMl h.dis.2.1, no G hGl h.dis.2.2.1, h.dis.2.2.2⟩, ⟨h.lo.1, h.lo.2.1, fun b hb => ?_⟩, ⟨Nat.lt_of_lt_of_le hGl hF.size, (hF.block G hGl h.dis.2.2.1).trans h.tw.2⟩, grown_new' h.g hF h.lo.2.2⟩
  rcases hQ b hb with h1 | h1
  · exact h.lo.2.2 b h1
  · exact Nat.le_trans h.g.size h1
end Go.Proofs.YtabkkeeedlnmnaaDoor
