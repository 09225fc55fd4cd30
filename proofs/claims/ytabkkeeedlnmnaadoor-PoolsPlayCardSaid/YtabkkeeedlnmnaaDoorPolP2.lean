/- PoolsPlay: a step, with the act's own block beside. -/
import Derived.Test.YtabkkeeedlnmnaaDoorPolP
namespace Go.Proofs.YtabkkeeedlnmnaaDoor
open Go.RowKit Go.Shelf Tk
set_option linter.unusedVariables false
set_option linter.unusedSimpArgs false
variable {w0 w w' : World} {B R K m k X n : Nat} {msA msB ms' : List Int} {fX : Nat → Value}
/-- All, and a block X of the law's own. -/
def QPX (w0 w : World) (B R K m k X n : Nat) (fX : Nat → Value) (msA msB : List Int) : Prop := ∃ f c v rv V U N, QPW w0 w B R K m k msA msB f c v rv V U N ∧ ¬ RefP.OwnQ R v X ∧ X ≠ B ∧ Arr w X n fX
theorem QPX.qp (h : QPX w0 w B R K m k X n fX msA msB) : QP w0 w B R K m k msA msB := by
  obtain ⟨f, c, v, rv, V, U, N, h, -⟩ := h; exact ⟨f, c, v, rv, V, U, N, h⟩
theorem QPX.arr (h : QPX w0 w B R K m k X n fX msA msB) : Arr w X n fX := by
  obtain ⟨f, c, v, rv, V, U, N, -, -, -, h⟩ := h; exact h
theorem QPX.keep (h : QPX w0 w B R K m k X n fX msA msB) (g : w.grownBy w' none) : QPX w0 w' B R K m k X n fX msA msB := by
  obtain ⟨f, c, v, rv, V, U, N, h, h1, h2, h3⟩ := h; exact ⟨f, c, v, rv, V, U, N, h.keep g, h1, h2, h3.kept g (by simp)⟩
theorem QP.withX (h : QP w0 w B R K m k msA msB) (cs : Array Value) (T : TypeId) (hA : Arr (w.alloc (.cells cs T)) w.heap.size n fX) : QPX w0 (w.alloc (.cells cs T)) B R K m k w.heap.size n fX msA msB := by
  obtain ⟨f, c, v, rv, V, U, N, h⟩ := h
  have hB := h.que.arr.lt
  exact ⟨f, c, v, rv, V, U, N, h.keep (World.grownBy_alloc w _ none), fun e => by have := h.ref.lt _ e; omega, by omega, hA⟩
theorem QPX.obj (h : QPX w0 w B R K m k X n fX msA msB) (g : w.grownBy w' (some B)) (hq : Pl w' B ms') : QPX w0 w' B R K m k X n fX ms' msB := by
  obtain ⟨f, c, v, rv, V, U, N, h, h1, h2, h3⟩ := h
  have fg : Fr (fun b => b = B) w w' := Fr.of_grown g (fun k e _ => by cases e; rfl)
  exact ⟨f, c, v, rv, V, U, N, ⟨hq, h.ref.fr fg (fun b hb e => h.bB.1 (e ▸ hb)), h.bk.fr fg (fun b hb e => h.bB.2 (e ▸ hb)), h.bB, h.bQ, h.lo, grown_new h.g fg (fun b e => by rw [e]; exact h.lo.1)⟩, h1, h2, h3.fr fg h2⟩
theorem QPX.step {F : Nat} {args : Array Value} {E : Ending → Prop} (h : QPX w0 w B R K m k X n fX msA msB) (hc : ∀ v, RefP.RQ w R m v msB → Calls Tryd.prog F args w fun e w' => E e ∧ RefP.Post w R m v ms' w') :
    Calls Tryd.prog F args w fun e w' => E e ∧ QPX w0 w' B R K m k X n fX msA ms' := by
  obtain ⟨f, c, v, rv, V, U, N, h, hX1, hX2, hX3⟩ := h
  refine (hc v h.ref).mono ?_
  rintro e w' ⟨he, v', hR, hF, hat⟩
  have hBl := h.que.arr.lt
  have hXl := hX3.lt
  have hQ : ∀ b, RefP.OwnQ R v' b → RefP.OwnQ R v b ∨ w.heap.size ≤ b := by
    rintro b (e | e)
    · exact .inl (.inl e)
    · exact (hat b e).imp .inr id
  refine ⟨he, f, c, v', rv, V, U, N, ⟨⟨h.que.arr.fr hF h.bB.1, h.que.n1, h.que.n64⟩, hR, h.bk.fr hF (fun b hb hq => h.bQ b hq hb), ⟨fun hq => ?_, h.bB.2⟩, fun b hb hk => ?_, ⟨h.lo.1, fun b hb => ?_⟩, grown_new h.g hF h.lo.2⟩, fun hq => ?_, hX2, hX3.fr hF hX1⟩
  · rcases hQ B hq with h1 | h1
    · exact h.bB.1 h1
    · omega
  · rcases hQ b hb with h1 | h1
    · exact h.bQ b h1 hk
    · have := h.bk.lt b hk; omega
  · rcases hQ b hb with h1 | h1
    · exact h.lo.2 b h1
    · exact Nat.le_trans h.g.size h1
  · rcases hQ X hq with h1 | h1
    · exact hX1 h1
    · omega
end Go.Proofs.YtabkkeeedlnmnaaDoor
