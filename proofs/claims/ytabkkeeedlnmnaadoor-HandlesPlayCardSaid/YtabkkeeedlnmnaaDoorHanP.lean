/- HandlesPlay: a table, the reference's, and the book beside each other. -/
import Derived.Test.YtabkkeeedlnmnaaDoorHanRef4
import Derived.Test.YtabkkeeedlnmnaaDoorBkW8
import Derived.Test.YtabkkeeedlnmnaaDoorSameW
namespace Go.Proofs.YtabkkeeedlnmnaaDoor
open Go.RowKit Go.Shelf Tk
set_option linter.unusedVariables false
set_option linter.unusedSimpArgs false
theorem BkWord.BkL.fr {w w' : World} {base K q : Nat} {rv : Value} {V U : Nat → Value} {N : Nat → Nat} {S : Nat → Prop} (h : BkWord.BkL base w K rv q V U N) (g : Fr S w w') (hs : ∀ b, BkWord.OwnB K rv b ∨ BkWord.OwnV q V b → ¬ S b) : BkWord.BkL base w' K rv q V U N :=
  ⟨h.bk.fr g (hs _ (.inl (.inl rfl))) (fun b hb => hs b (.inl (.inr hb))), fun i hi => by
    obtain ⟨xs, hl, hL⟩ := h.ls i hi
    exact ⟨xs, hl, hL.fr g (fun b hb => hs b (.inr ⟨i, hi, hb⟩))⟩, h.us, h.ap, h.sep, h.lo, h.len⟩
theorem BkWord.BkL.lt {w : World} {base K q : Nat} {rv : Value} {V U : Nat → Value} {N : Nat → Nat} (h : BkWord.BkL base w K rv q V U N) : ∀ b, BkWord.OwnB K rv b ∨ BkWord.OwnV q V b → b < w.heap.size := by
  rintro b (hb | ⟨i, hi, hb⟩)
  · exact h.bk.lt b hb
  · obtain ⟨xs, -, hL⟩ := h.ls i hi; exact hL.lt b hb
/-- All together, with what is hidden. -/
structure QPW (w0 w : World) (B R K k : Nat) (tA tB : Tab) (v : Nat × Nat) (rv : Value) (V U : Nat → Value) (N : Nat → Nat) : Prop where
  que : Arr w B 513 tA.v
  ref : RefH.RQ w R v tB
  bk : BkWord.BkL w0.heap.size w K rv k V U N
  bB : ¬ RefH.OwnQ R v B ∧ ¬ (BkWord.OwnB K rv B ∨ BkWord.OwnV k V B)
  bQ : ∀ b, RefH.OwnQ R v b → ¬ (BkWord.OwnB K rv b ∨ BkWord.OwnV k V b)
  lo : w0.heap.size ≤ B ∧ ∀ b, RefH.OwnQ R v b → w0.heap.size ≤ b
  g : w0.grownBy w none
def QP (w0 w : World) (B R K k : Nat) (tA tB : Tab) : Prop := ∃ v rv V U N, QPW w0 w B R K k tA tB v rv V U N
def QPL (w0 w : World) (B R K k : Nat) (tA tB : Tab) (l : Value) (xs : List Int) : Prop := ∃ v rv V U N, QPW w0 w B R K k tA tB v rv V U N ∧ Lg w 22 .u32 l xs ∧
  ∀ b, l.ownBlock = some b → w0.heap.size ≤ b ∧ b ≠ B ∧ ¬ RefH.OwnQ R v b ∧ ¬ (BkWord.OwnB K rv b ∨ BkWord.OwnV k V b)
variable {w0 w w' : World} {B R K k : Nat} {tA tB t' : Tab}
theorem QP.g (h : QP w0 w B R K k tA tB) : w0.grownBy w none := by obtain ⟨v, rv, V, U, N, h⟩ := h; exact h.g
theorem QPW.keep {v : Nat × Nat} {rv : Value} {V U : Nat → Value} {N : Nat → Nat} (h : QPW w0 w B R K k tA tB v rv V U N) (g : w.grownBy w' none) : QPW w0 w' B R K k tA tB v rv V U N :=
  ⟨h.que.kept g (by simp), h.ref.keep g, h.bk.keep g, h.bB, h.bQ, h.lo, grown_trans h.g g⟩
theorem QP.keep (h : QP w0 w B R K k tA tB) (g : w.grownBy w' none) : QP w0 w' B R K k tA tB := by
  obtain ⟨v, rv, V, U, N, h⟩ := h; exact ⟨v, rv, V, U, N, h.keep g⟩
theorem QPL.keep {l : Value} {xs : List Int} (h : QPL w0 w B R K k tA tB l xs) (g : w.grownBy w' none) : QPL w0 w' B R K k tA tB l xs := by
  obtain ⟨v, rv, V, U, N, h, hL, hd⟩ := h; exact ⟨v, rv, V, U, N, h.keep g, hL.keep g, hd⟩
/-- Back from blocks that are all new. -/
theorem grown_new {S : Nat → Prop} (h : w0.grownBy w none) (g : Fr S w w') (hs : ∀ b, S b → w0.heap.size ≤ b) : w0.grownBy w' none := BkWord.grown_fr h g hs
theorem QP.que (h : QP w0 w B R K k tA tB) : Arr w B 513 tA.v := by obtain ⟨v, rv, V, U, N, h⟩ := h; exact h.que
/-- The table's step. -/
theorem QP.obj (h : QP w0 w B R K k tA tB) (g : w.grownBy w' (some B)) (hq : Arr w' B 513 t'.v) : QP w0 w' B R K k t' tB := by
  obtain ⟨v, rv, V, U, N, h⟩ := h
  have fg : Fr (fun b => b = B) w w' := Fr.of_grown g (fun k e _ => by cases e; rfl)
  exact ⟨v, rv, V, U, N, hq, h.ref.fr fg (fun b hb e => h.bB.1 (e ▸ hb)), h.bk.fr fg (fun b hb e => h.bB.2 (e ▸ hb)), h.bB, h.bQ, h.lo, grown_new h.g fg (fun b e => by rw [e]; exact h.lo.1)⟩
/-- The reference's step. -/
theorem QP.step {F : Nat} {args : Array Value} {E : Ending → Prop} (h : QP w0 w B R K k tA tB) (hc : ∀ v, RefH.RQ w R v tB → Calls Tryd.prog F args w fun e w' => E e ∧ RefH.Post w R v t' w') :
    Calls Tryd.prog F args w fun e w' => E e ∧ QP w0 w' B R K k tA t' := by
  obtain ⟨v, rv, V, U, N, h⟩ := h
  refine (hc v h.ref).mono ?_
  rintro e w' ⟨he, hR, hF⟩
  exact ⟨he, v, rv, V, U, N, h.que.fr hF h.bB.1, hR, h.bk.fr hF (fun b hb hq => h.bQ b hq hb), h.bB, h.bQ, h.lo, grown_new h.g hF h.lo.2⟩
/-- A list that was made. -/
theorem QP.list {l : Value} {xs : List Int} (h : QP w0 w B R K k tA tB) (g : w.grownBy w' none) (hM : Mine w' w.heap.size 22 .u32 l xs) : QPL w0 w' B R K k tA tB l xs := by
  obtain ⟨v, rv, V, U, N, h⟩ := h
  refine ⟨v, rv, V, U, N, h.keep g, Lg.of_mine hM, fun b hb => ?_⟩
  have hlt := (World.ownsRow.lt hM b hb).1
  have hBl := h.que.lt
  refine ⟨Nat.le_trans h.g.size hlt, by omega, fun hq => ?_, fun hk => ?_⟩
  · have := h.ref.lt b hq; omega
  · have := h.bk.lt b hk; omega
/-- It is kept. -/
theorem QPL.words {l : Value} {xs : List Int} (h : QPL w0 w B R K k tA tB l xs) (hk : k ≤ 999) (hx : xs.length ≤ 5000) :
    Calls Tryd.prog 26 #[.pointer (some ⟨K, 0, none⟩), l] w fun e w' => (∃ x, e = .returned x) ∧ QP w0 w' B R K (k + 1) tA tB := by
  obtain ⟨v, rv, V, U, N, h, hL, hd⟩ := h
  refine (BkWord.ints_ok h.bk hk hL hx (fun i hi => ?_) (fun b hb hB => (hd b hb).2.2.2 (.inl hB)) (fun b hb => (hd b hb).1) h.g.size).mono ?_
  · rcases e : l.ownBlock with _ | b
    · exact .inl e
    · exact .inr fun e2 => (hd b e).2.2.2 (.inr ⟨i, hi, by rw [← e2, e]⟩)
  rintro e w' ⟨he, rv', hB', hF, hn⟩
  have hBl := h.que.lt
  have hV : ∀ b, BkWord.OwnV (k + 1) (BkWord.up V k l) b → BkWord.OwnV k V b ∨ l.ownBlock = some b := by
    rintro b ⟨i, hi, e⟩
    by_cases hi2 : i = k
    · subst hi2; rw [BkWord.up_same] at e; exact .inr e
    · rw [BkWord.up_ne _ _ hi2] at e; exact .inl ⟨i, by omega, e⟩
  refine ⟨he, v, rv', _, _, _, h.que.fr hF (fun hb => h.bB.2 (.inl hb)), h.ref.fr hF (fun b hb hk2 => h.bQ b hb (.inl hk2)), hB', ⟨h.bB.1, ?_⟩, fun b hb => ?_, h.lo, grown_new h.g hF (fun b hb => h.bk.lo b (.inr hb))⟩
  · rintro (hb | hb)
    · rcases hn B hb with h1 | h1
      · exact h.bB.2 (.inl h1)
      · omega
    · rcases hV B hb with h1 | h1
      · exact h.bB.2 (.inr h1)
      · exact (hd B h1).2.1 rfl
  · rintro (hb2 | hb2)
    · rcases hn b hb2 with h1 | h1
      · exact h.bQ b hb (.inl h1)
      · have := h.ref.lt b hb; omega
    · rcases hV b hb2 with h1 | h1
      · exact h.bQ b hb (.inr h1)
      · exact (hd b h1).2.2.1 hb
theorem QP.apart (h : QP w0 w B R K k tA tB) (hk : k ≤ 1000) : Calls Tryd.prog 14 #[.pointer (some ⟨K, 0, none⟩)] w fun e w' => e = .returned (.bool true) ∧ w0.grownBy w' none := by
  obtain ⟨v, rv, V, U, N, h⟩ := h
  exact (BkWord.apart_own h.bk hk).mono fun e w' ⟨he, hF⟩ => ⟨he, grown_new h.g hF (fun b hb => hb)⟩
end Go.Proofs.YtabkkeeedlnmnaaDoor
