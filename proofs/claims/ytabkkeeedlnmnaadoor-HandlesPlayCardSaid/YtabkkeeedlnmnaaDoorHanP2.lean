/- HandlesPlay: a step, with the act's own block beside; the steps, both alike. -/
import Derived.Test.YtabkkeeedlnmnaaDoorHanP
namespace Go.Proofs.YtabkkeeedlnmnaaDoor
open Go.RowKit Go.Shelf Tk
set_option linter.unusedVariables false
set_option linter.unusedSimpArgs false
section
variable {w0 w w' : World} {B R K k X n : Nat} {tA tB t' : Tab} {fX : Nat → Value}
/-- All, and a block X of the law's own. -/
def QPX (w0 w : World) (B R K k X n : Nat) (fX : Nat → Value) (tA tB : Tab) : Prop := ∃ v rv V U N, QPW w0 w B R K k tA tB v rv V U N ∧ ¬ RefH.OwnQ R v X ∧ X ≠ B ∧ Arr w X n fX
theorem QPX.qp (h : QPX w0 w B R K k X n fX tA tB) : QP w0 w B R K k tA tB := by
  obtain ⟨v, rv, V, U, N, h, -⟩ := h; exact ⟨v, rv, V, U, N, h⟩
theorem QPX.arr (h : QPX w0 w B R K k X n fX tA tB) : Arr w X n fX := by
  obtain ⟨v, rv, V, U, N, -, -, -, h⟩ := h; exact h
theorem QPX.keep (h : QPX w0 w B R K k X n fX tA tB) (g : w.grownBy w' none) : QPX w0 w' B R K k X n fX tA tB := by
  obtain ⟨v, rv, V, U, N, h, h1, h2, h3⟩ := h; exact ⟨v, rv, V, U, N, h.keep g, h1, h2, h3.kept g (by simp)⟩
theorem QP.withX (h : QP w0 w B R K k tA tB) (cs : Array Value) (T : TypeId) (hA : Arr (w.alloc (.cells cs T)) w.heap.size n fX) : QPX w0 (w.alloc (.cells cs T)) B R K k w.heap.size n fX tA tB := by
  obtain ⟨v, rv, V, U, N, h⟩ := h
  have hB := h.que.lt
  exact ⟨v, rv, V, U, N, h.keep (World.grownBy_alloc w _ none), fun e => by have := h.ref.lt _ e; omega, by omega, hA⟩
theorem QPX.obj (h : QPX w0 w B R K k X n fX tA tB) (g : w.grownBy w' (some B)) (hq : Arr w' B 513 t'.v) : QPX w0 w' B R K k X n fX t' tB := by
  obtain ⟨v, rv, V, U, N, h, h1, h2, h3⟩ := h
  have fg : Fr (fun b => b = B) w w' := Fr.of_grown g (fun k e _ => by cases e; rfl)
  exact ⟨v, rv, V, U, N, ⟨hq, h.ref.fr fg (fun b hb e => h.bB.1 (e ▸ hb)), h.bk.fr fg (fun b hb e => h.bB.2 (e ▸ hb)), h.bB, h.bQ, h.lo, grown_new h.g fg (fun b e => by rw [e]; exact h.lo.1)⟩, h1, h2, h3.fr fg h2⟩
theorem QPX.step {F : Nat} {args : Array Value} {E : Ending → Prop} (h : QPX w0 w B R K k X n fX tA tB) (hc : ∀ v, RefH.RQ w R v tB → Calls Tryd.prog F args w fun e w' => E e ∧ RefH.Post w R v t' w') :
    Calls Tryd.prog F args w fun e w' => E e ∧ QPX w0 w' B R K k X n fX tA t' := by
  obtain ⟨v, rv, V, U, N, h, hX1, hX2, hX3⟩ := h
  refine (hc v h.ref).mono ?_
  rintro e w' ⟨he, hR, hF⟩
  exact ⟨he, v, rv, V, U, N, ⟨h.que.fr hF h.bB.1, hR, h.bk.fr hF (fun b hb hq => h.bQ b hq hb), h.bB, h.bQ, h.lo, grown_new h.g hF h.lo.2⟩, hX1, hX2, hX3.fr hF hX1⟩
theorem QP.start {v : Nat × Nat} {t : Tab} {r : Nat} (T : TypeId) (hq : Arr w B 513 t.v) (hr : RefH.RQ w R v t) (hB : w0.heap.size ≤ B) (hBr : B < r) (hv : ∀ b, RefH.OwnQ R v b → r ≤ b) (hg : w0.grownBy w none) :
    QP w0 (w.alloc (.cells #[.int .i64 0, .slice none 0 0, .slice none 0 0, .slice none 0 0, .slice none 0 0, .slice none 0 0, .slice none 0 0, .slice none 0 0, .slice none 0 0] T)) B R w.heap.size 0 t t := by
  have hgA := World.grownBy_alloc w (.cells #[.int .i64 0, .slice none 0 0, .slice none 0 0, .slice none 0 0, .slice none 0 0, .slice none 0 0, .slice none 0 0, .slice none 0 0, .slice none 0 0] T) none
  have h1 := hq.lt
  refine ⟨_, _, _, _, _, hq.kept hgA (by simp), hr.keep hgA, (BkWord.BkU.made (base := w0.heap.size) w T hg.size).toBkL, ⟨fun e => ?_, ?_⟩, ?_, ⟨hB, fun b hb => ?_⟩, grown_trans hg hgA⟩
  · have := hv B e; omega
  · rintro ((e | e) | ⟨i, hi, -⟩)
    · omega
    · cases e
    · exact absurd hi (Nat.not_lt_zero _)
  · rintro b hb
    have := hr.lt b hb
    rintro ((e | e) | ⟨i, hi, -⟩)
    · omega
    · cases e
    · exact absurd hi (Nat.not_lt_zero _)
  · have := hv b hb; omega
theorem QPL.refList {l : Value} {xs : List Int} (h : QPL w0 w B R K k tA tB l xs) (ht : tB.inn) :
    Calls Tryd.prog 25 #[.pointer (some ⟨R, 0, none⟩)] w fun e w' => ∃ u, e = .returned u ∧ Mine w' w.heap.size 22 .u32 u tB.list ∧ w.grownBy w' none := by
  obtain ⟨v, rv, V, U, N, h, -, -⟩ := h
  exact RefH.list_ok h.ref ht
end
theorem inn_len {t : Tab} (h : t.inn) : t.list.length ≤ 256 := Nat.le_trans (upto_len t t.many) h.1.2.2
theorem pair_make (B R : Nat) (t : Tab) (ht : t.inn) : ∃ (y g : Int) (t' : Tab), t'.inn ∧ (∀ w, Arr w B 513 t.v → Calls Tryd.prog 17 #[.pointer (some ⟨B, 0, none⟩)] w fun e w' => e = .returned (.tuple #[.int .u32 y, .int .i64 g]) ∧ Arr w' B 513 t'.v ∧ w.grownBy w' (some B)) ∧
    (∀ w v, RefH.RQ w R v t → Calls Tryd.prog 18 #[.pointer (some ⟨R, 0, none⟩)] w fun e w' => e = .returned (.tuple #[.int .u32 y, .int .i64 g]) ∧ RefH.Post w R v t' w') :=
  ⟨_, _, _, Tab.inn_make ht, fun w h => make_any t ht.1 B w h, fun w v h => RefH.make_ok h ht⟩
theorem pair_drop (B R : Nat) (t : Tab) (ht : t.inn) (a : Nat) (ha : a < 4294967296) : ∃ (g : Int) (t' : Tab), t'.inn ∧ (∀ w, Arr w B 513 t.v → Calls Tryd.prog 19 #[.pointer (some ⟨B, 0, none⟩), .int .u32 a] w fun e w' => e = .returned (.int .i64 g) ∧ Arr w' B 513 t'.v ∧ w.grownBy w' (some B)) ∧
    (∀ w v, RefH.RQ w R v t → Calls Tryd.prog 20 #[.pointer (some ⟨R, 0, none⟩), .int .u32 a] w fun e w' => e = .returned (.int .i64 g) ∧ RefH.Post w R v t' w') :=
  ⟨_, _, Tab.inn_drop ht a, fun w h => drop_any t ht.1 B a ha w h, fun w v h => RefH.drop_ok h ht a ha⟩
theorem pair_place (B R : Nat) (t : Tab) (ht : t.inn) (a : Nat) (ha : a < 4294967296) : ∃ (y g : Int), (∀ w, Arr w B 513 t.v → Calls Tryd.prog 21 #[.pointer (some ⟨B, 0, none⟩), .int .u32 a] w fun e w' => e = .returned (.tuple #[.int .i64 y, .int .i64 g]) ∧ Arr w' B 513 t.v ∧ w.grownBy w' (some B)) ∧
    (∀ w v, RefH.RQ w R v t → Calls Tryd.prog 22 #[.pointer (some ⟨R, 0, none⟩), .int .u32 a] w fun e w' => e = .returned (.tuple #[.int .i64 y, .int .i64 g]) ∧ RefH.Post w R v t w') :=
  ⟨_, _, fun w h => (place_any t ht.1 B a ha w h).mono fun e w' ⟨he, hg⟩ => ⟨he, h.kept hg (by simp), grown_weaken _ hg⟩, fun w v h => (RefH.place_ok h ht a ha).mono fun e w' ⟨he, hw⟩ => ⟨he, hw ▸ h.same (grown_refl w none)⟩⟩
theorem same_w {w : World} {b b' : Nat} {u v : Value} {xs : List Int} (hu : Mine w b 22 .u32 u xs) (hv : Mine w b' 22 .u32 v xs) (hm : xs.length ≤ 1000000) :
    Calls Tryd.prog 24 #[u, v] w fun e w' => e = .returned (.bool true) ∧ w.grownBy w' none := by
  obtain ⟨A, c, rfl, hc, -⟩ := hu.form
  obtain ⟨B, d, rfl, hd, -⟩ := hv.form
  exact (sameWords_any A B c d _ _ _ _ xs xs w hc hd hm hm hu.sl hv.sl).mono fun e w' ⟨he, n, hw⟩ => ⟨by rw [he, decide_eq_true rfl], by rw [← hw]; exact grown_drewN (grown_refl _ _) n⟩
theorem meas_q (n k : Nat) (h : k < n) : n - (intOf (.int .i64 ((k : Int) + 1))).toNat < n - (intOf (.int .i64 (k : Int))).toNat := by simp [intOf]; omega
theorem four (r : Nat) : ((r : Int) % 4 == 0) = true ∨ (((r : Int) % 4 == 0) = false ∧ ((r : Int) % 4 == 1) = true) ∨ (((r : Int) % 4 == 0) = false ∧ ((r : Int) % 4 == 1) = false ∧ ((r : Int) % 4 == 2) = true) ∨
    (((r : Int) % 4 == 0) = false ∧ ((r : Int) % 4 == 1) = false ∧ ((r : Int) % 4 == 2) = false) := by
  simp only [beq_iff_eq, beq_eq_false_iff_ne]; omega
end Go.Proofs.YtabkkeeedlnmnaaDoor
