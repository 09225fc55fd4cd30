/- WaitsPlay: a queue, the reference's, and the book beside each other, with a block X of the law's own. -/
import Derived.Test.YtiakbgdeanllnaaDoorWtP
namespace Go.Proofs.YtiakbgdeanllnaaDoor
open Go.RowKit Go.Shelf Tk
set_option linter.unusedVariables false
set_option linter.unusedSimpArgs false
def OwnW (Q : Nat) (hd : Nd) (l : List Nd) (b : Nat) : Prop := b = Q ∨ b ∈ Blks (hd :: l)
theorem Wq.lt {w : World} {Q : Nat} {hd : Nd} {l : List Nd} (h : Wq w Q hd l) : ∀ b, OwnW Q hd l b → b < w.heap.size := by
  rintro b (rfl | e)
  · exact h.q.lt
  · exact h.lk.lt b e
theorem Wq.fr {w w' : World} {Q : Nat} {hd : Nd} {l : List Nd} {S : Nat → Prop} (h : Wq w Q hd l) (g : Fr S w w') (hs : ∀ b, OwnW Q hd l b → ¬ S b) : Wq w' Q hd l :=
  ⟨h.q.fr g (hs _ (.inl rfl)), h.lk.fr g (fun n hn => hs _ (.inr (List.mem_map_of_mem hn))), h.nd, h.nq⟩
/-- All together, with what is hidden. -/
structure QPW (w0 w : World) (Q R K k : Nat) (nsA nsB : List (Int × Int)) (hd : Nd) (l : List Nd) (v rv : Value) (V U : Nat → Value) (N : Nat → Nat) : Prop where
  que : Wq w Q hd l
  key : l.map Nd.key = nsA
  ref : RefT.RQ w R v nsB
  bk : BkInt.BkL w0.heap.size w K rv k V U N
  bB : ∀ b, OwnW Q hd l b → ¬ RefT.OwnQ R v b ∧ ¬ (BkInt.OwnB K rv b ∨ BkInt.OwnV k V b)
  bQ : ∀ b, RefT.OwnQ R v b → ¬ (BkInt.OwnB K rv b ∨ BkInt.OwnV k V b)
  lo : (∀ b, OwnW Q hd l b → w0.heap.size ≤ b) ∧ ∀ b, RefT.OwnQ R v b → w0.heap.size ≤ b
  g : w0.grownBy w none
def QP (w0 w : World) (Q R K k : Nat) (nsA nsB : List (Int × Int)) : Prop := ∃ hd l v rv V U N, QPW w0 w Q R K k nsA nsB hd l v rv V U N
def QPL (w0 w : World) (Q R K k : Nat) (nsA nsB : List (Int × Int)) (u : Value) (xs : List Int) : Prop := ∃ hd l v rv V U N, QPW w0 w Q R K k nsA nsB hd l v rv V U N ∧ Lg w 3 .i64 u xs ∧
  ∀ b, u.ownBlock = some b → w0.heap.size ≤ b ∧ ¬ OwnW Q hd l b ∧ ¬ RefT.OwnQ R v b ∧ ¬ (BkInt.OwnB K rv b ∨ BkInt.OwnV k V b)
/-- All, and a block X of the law's own. -/
def QPX (w0 w : World) (Q R K k X n : Nat) (fX : Nat → Value) (nsA nsB : List (Int × Int)) : Prop := ∃ hd l v rv V U N, QPW w0 w Q R K k nsA nsB hd l v rv V U N ∧ ¬ RefT.OwnQ R v X ∧ ¬ OwnW Q hd l X ∧ Arr w X n fX
section
variable {w0 w w' : World} {Q R K k X n : Nat} {nsA nsB ns' : List (Int × Int)} {fX : Nat → Value}
theorem QP.g (h : QP w0 w Q R K k nsA nsB) : w0.grownBy w none := by obtain ⟨hd, l, v, rv, V, U, N, h⟩ := h; exact h.g
theorem QPW.keep {hd : Nd} {l : List Nd} {v rv : Value} {V U : Nat → Value} {N : Nat → Nat} (h : QPW w0 w Q R K k nsA nsB hd l v rv V U N) (g : w.grownBy w' none) : QPW w0 w' Q R K k nsA nsB hd l v rv V U N :=
  ⟨h.que.keep g, h.key, h.ref.keep g, h.bk.keep g, h.bB, h.bQ, h.lo, grown_trans h.g g⟩
theorem QP.keep (h : QP w0 w Q R K k nsA nsB) (g : w.grownBy w' none) : QP w0 w' Q R K k nsA nsB := by
  obtain ⟨hd, l, v, rv, V, U, N, h⟩ := h; exact ⟨hd, l, v, rv, V, U, N, h.keep g⟩
theorem QPL.keep {u : Value} {xs : List Int} (h : QPL w0 w Q R K k nsA nsB u xs) (g : w.grownBy w' none) : QPL w0 w' Q R K k nsA nsB u xs := by
  obtain ⟨hd, l, v, rv, V, U, N, h, hL, hd2⟩ := h; exact ⟨hd, l, v, rv, V, U, N, h.keep g, hL.keep g, hd2⟩
/-- Back from blocks that are all new. -/
theorem grown_new {S : Nat → Prop} (h : w0.grownBy w none) (g : Fr S w w') (hs : ∀ b, S b → w0.heap.size ≤ b) : w0.grownBy w' none := BkInt.grown_fr h g hs
theorem QPX.qp (h : QPX w0 w Q R K k X n fX nsA nsB) : QP w0 w Q R K k nsA nsB := by
  obtain ⟨hd, l, v, rv, V, U, N, h, -⟩ := h; exact ⟨hd, l, v, rv, V, U, N, h⟩
theorem QPX.arr (h : QPX w0 w Q R K k X n fX nsA nsB) : Arr w X n fX := by
  obtain ⟨hd, l, v, rv, V, U, N, -, -, -, h⟩ := h; exact h
theorem QP.withX (h : QP w0 w Q R K k nsA nsB) (cs : Array Value) (T : TypeId) (hA : Arr (w.alloc (.cells cs T)) w.heap.size n fX) : QPX w0 (w.alloc (.cells cs T)) Q R K k w.heap.size n fX nsA nsB := by
  obtain ⟨hd, l, v, rv, V, U, N, h⟩ := h
  exact ⟨hd, l, v, rv, V, U, N, h.keep (World.grownBy_alloc w _ none), fun e => by have := h.ref.lt _ e; omega, fun e => by have := h.que.lt _ e; omega, hA⟩
/-- The queue's step. -/
theorem QPX.obj {F : Nat} {args : Array Value} {E : Ending → Prop} (h : QPX w0 w Q R K k X n fX nsA nsB) (hc : StA Q F args E nsA ns') :
    Calls Tryd.prog F args w fun e w' => E e ∧ QPX w0 w' Q R K k X n fX ns' nsB := by
  obtain ⟨hd, l, v, rv, V, U, N, h, h1, h2, h3⟩ := h
  refine (hc w hd l h.que h.key).mono ?_
  rintro e w' ⟨he, l', hq, hk, fg0, hat⟩
  have fg : Fr (OwnW Q hd l) w w' := fg0.mono fun k _ hk => .inr hk
  have hO : ∀ b, OwnW Q hd l' b → OwnW Q hd l b ∨ w.heap.size ≤ b := by
    rintro b (e | e)
    · exact .inl (.inl e)
    · exact (hat b e).imp .inr id
  refine ⟨he, hd, l', v, rv, V, U, N, ⟨hq, hk, h.ref.fr fg (fun b hb e => (h.bB b e).1 hb), h.bk.fr fg (fun b hb e => (h.bB b e).2 hb), fun b hb => ?_, h.bQ, ⟨fun b hb => ?_, h.lo.2⟩, grown_new h.g fg h.lo.1⟩, h1, fun hb => ?_, h3.fr fg h2⟩
  · rcases hO b hb with e | e
    · exact h.bB b e
    · exact ⟨fun hq => by have := h.ref.lt b hq; omega, fun hk => by have := h.bk.lt b hk; omega⟩
  · rcases hO b hb with e | e
    · exact h.lo.1 b e
    · exact Nat.le_trans h.g.size e
  · rcases hO X hb with e | e
    · exact h2 e
    · have := h3.lt; omega
/-- The reference's step. -/
theorem QPX.step {F : Nat} {args : Array Value} {E : Ending → Prop} (h : QPX w0 w Q R K k X n fX nsA nsB) (hc : StB R F args E nsB ns') :
    Calls Tryd.prog F args w fun e w' => E e ∧ QPX w0 w' Q R K k X n fX nsA ns' := by
  obtain ⟨hd, l, v, rv, V, U, N, h, hX1, hX2, hX3⟩ := h
  refine (hc w v h.ref).mono ?_
  rintro e w' ⟨he, v', hR, hF, hat⟩
  have hBl := h.que.lt
  have hXl := hX3.lt
  have hQ : ∀ b, RefT.OwnQ R v' b → RefT.OwnQ R v b ∨ w.heap.size ≤ b := by
    rintro b (e | e)
    · exact .inl (.inl e)
    · exact (hat b e).imp .inr id
  refine ⟨he, hd, l, v', rv, V, U, N, ⟨h.que.fr hF (fun b hb => (h.bB b hb).1), h.key, hR, h.bk.fr hF (fun b hb hq => h.bQ b hq hb), fun b hb => ⟨fun hq => ?_, (h.bB b hb).2⟩, fun b hb hk => ?_, ⟨h.lo.1, fun b hb => ?_⟩, grown_new h.g hF h.lo.2⟩, fun hq => ?_, hX2, hX3.fr hF hX1⟩
  · rcases hQ b hq with h1 | h1
    · exact (h.bB b hb).1 h1
    · have := hBl b hb; omega
  · rcases hQ b hb with h1 | h1
    · exact h.bQ b h1 hk
    · have := h.bk.lt b hk; omega
  · rcases hQ b hb with h1 | h1
    · exact h.lo.2 b h1
    · exact Nat.le_trans h.g.size h1
  · rcases hQ X hq with h1 | h1
    · exact hX1 h1
    · omega
/-- A list that was made. -/
theorem QP.list {u : Value} {xs : List Int} (h : QP w0 w Q R K k nsA nsB) (g : w.grownBy w' none) (hM : LgN w' w.heap.size u xs) : QPL w0 w' Q R K k nsA nsB u xs := by
  obtain ⟨hd, l, v, rv, V, U, N, h⟩ := h
  refine ⟨hd, l, v, rv, V, U, N, h.keep g, hM.1, fun b hb => ?_⟩
  have hlt := (hM.2 b hb).1
  refine ⟨Nat.le_trans h.g.size hlt, fun hq => ?_, fun hq => ?_, fun hk => ?_⟩
  · have := h.que.lt b hq; omega
  · have := h.ref.lt b hq; omega
  · have := h.bk.lt b hk; omega
/-- It is kept. -/
theorem QPL.ints {u : Value} {xs : List Int} (h : QPL w0 w Q R K k nsA nsB u xs) (hk : k ≤ 999) (hx : xs.length ≤ 5000) :
    Calls Tryd.prog 18 #[.pointer (some ⟨K, 0, none⟩), u] w fun e w' => (∃ x, e = .returned x) ∧ QP w0 w' Q R K (k + 1) nsA nsB := by
  obtain ⟨hd, l, v, rv, V, U, N, h, hL, hd2⟩ := h
  refine (BkInt.ints_ok h.bk hk hL hx (fun i hi => ?_) (fun b hb hB => (hd2 b hb).2.2.2 (.inl hB)) (fun b hb => (hd2 b hb).1) h.g.size).mono ?_
  · rcases e : u.ownBlock with _ | b
    · exact .inl e
    · exact .inr fun e2 => (hd2 b e).2.2.2 (.inr ⟨i, hi, by rw [← e2, e]⟩)
  rintro e w' ⟨he, rv', hB', hF, hn⟩
  have hBl := h.que.lt
  have hV : ∀ b, BkInt.OwnV (k + 1) (BkInt.up V k u) b → BkInt.OwnV k V b ∨ u.ownBlock = some b := by
    rintro b ⟨i, hi, e⟩
    by_cases hi2 : i = k
    · subst hi2; rw [BkInt.up_same] at e; exact .inr e
    · rw [BkInt.up_ne _ _ hi2] at e; exact .inl ⟨i, by omega, e⟩
  refine ⟨he, hd, l, v, rv', _, _, _, h.que.fr hF (fun b hb hB => (h.bB b hb).2 (.inl hB)), h.key, h.ref.fr hF (fun b hb hk2 => h.bQ b hb (.inl hk2)), hB', fun b hb => ⟨(h.bB b hb).1, ?_⟩, fun b hb => ?_, h.lo, grown_new h.g hF (fun b hb => h.bk.lo b (.inr hb))⟩
  · rintro (hb2 | hb2)
    · rcases hn b hb2 with h1 | h1
      · exact (h.bB b hb).2 (.inl h1)
      · have := hBl b hb; omega
    · rcases hV b hb2 with h1 | h1
      · exact (h.bB b hb).2 (.inr h1)
      · exact (hd2 b h1).2.1 hb
  · rintro (hb2 | hb2)
    · rcases hn b hb2 with h1 | h1
      · exact h.bQ b hb (.inl h1)
      · have := h.ref.lt b hb; omega
    · rcases hV b hb2 with h1 | h1
      · exact h.bQ b hb (.inr h1)
      · exact (hd2 b h1).2.2.1 hb
theorem QP.apart (h : QP w0 w Q R K k nsA nsB) (hk : k ≤ 1000) : Calls Tryd.prog 19 #[.pointer (some ⟨K, 0, none⟩)] w fun e w' => e = .returned (.bool true) ∧ w0.grownBy w' none := by
  obtain ⟨hd, l, v, rv, V, U, N, h⟩ := h
  exact (BkInt.apart_own h.bk hk).mono fun e w' ⟨he, hF⟩ => ⟨he, grown_new h.g hF (fun b hb => hb)⟩
theorem QPL.refList {u : Value} {xs : List Int} (h : QPL w0 w Q R K k nsA nsB u xs) (hl : nsB.length ≤ 1000) :
    Calls Tryd.prog 17 #[.pointer (some ⟨R, 0, none⟩)] w fun e w' => ∃ y, e = .returned y ∧ Mine w' w.heap.size 3 .i64 y (nsB.map Prod.fst) ∧ w.grownBy w' none := by
  obtain ⟨hd, l, v, rv, V, U, N, h, -, -⟩ := h
  exact RefT.list_ok h.ref hl
theorem QP.objList (h : QP w0 w Q R K k nsA nsB) (hl : nsA.length ≤ 1000) :
    Calls Tryd.prog 13 #[.pointer (some ⟨Q, 0, none⟩)] w fun e w' => ∃ u, e = .returned u ∧ LgN w' w.heap.size u (nsA.map Prod.fst) ∧ w.grownBy w' none := by
  obtain ⟨hd, l, v, rv, V, U, N, h⟩ := h
  have e : l.length = nsA.length := by rw [← h.key, List.length_map]
  have := list_lg (l := l) (by omega) h.que
  rw [key_x h.key] at this
  exact this
def fstV (ns : List (Int × Int)) : Int × Bool := match ns with | [] => (0, false) | p :: _ => (p.1, true)
theorem QPL.objFirst {u : Value} {xs : List Int} (h : QPL w0 w Q R K k nsA nsB u xs) :
    Calls Tryd.prog 14 #[.pointer (some ⟨Q, 0, none⟩)] w fun e w' => e = .returned (.tuple #[.int .i64 (fstV nsA).1, .bool (fstV nsA).2]) ∧ w = w' := by
  obtain ⟨hd, l, v, rv, V, U, N, h, -, -⟩ := h
  have hk := h.key
  cases l with
  | nil => subst hk; exact first_none h.que
  | cons m l => subst hk; exact first_some h.que
theorem QPL.refFirst {u : Value} {xs : List Int} (h : QPL w0 w Q R K k nsA nsB u xs) (hl : nsB.length ≤ 1000) :
    Calls Tryd.prog 15 #[.pointer (some ⟨R, 0, none⟩)] w fun e w' => e = .returned (.tuple #[.int .i64 (fstV nsB).1, .bool (fstV nsB).2]) ∧ w = w' := by
  obtain ⟨hd, l, v, rv, V, U, N, h, -, -⟩ := h
  have hr := h.ref
  cases nsB with
  | nil => exact RefT.first_none hr
  | cons p ns => exact RefT.first_some p hr (by simp at hl; omega)
theorem QP.start {hd : Nd} {l : List Nd} {v : Value} {ns : List (Int × Int)} {r : Nat} (T : TypeId) (hq : Wq w Q hd l) (hk : l.map Nd.key = ns) (hr : RefT.RQ w R v ns) (hB : ∀ b, OwnW Q hd l b → w0.heap.size ≤ b ∧ b < r) (hv : ∀ b, RefT.OwnQ R v b → r ≤ b) (hr0 : w0.heap.size ≤ r) (hg : w0.grownBy w none) :
    QP w0 (w.alloc (.cells #[.int .i64 0, .slice none 0 0, .slice none 0 0, .slice none 0 0, .slice none 0 0, .slice none 0 0, .slice none 0 0, .slice none 0 0, .slice none 0 0] T)) Q R w.heap.size 0 ns ns := by
  have hgA := World.grownBy_alloc w (.cells #[.int .i64 0, .slice none 0 0, .slice none 0 0, .slice none 0 0, .slice none 0 0, .slice none 0 0, .slice none 0 0, .slice none 0 0, .slice none 0 0] T) none
  refine ⟨hd, l, _, _, _, _, _, hq.keep hgA, hk, hr.keep hgA, (BkInt.BkU.made (base := w0.heap.size) w T hg.size).toBkL, fun b hb => ⟨fun e => ?_, ?_⟩, ?_, ⟨fun b hb => (hB b hb).1, fun b hb => ?_⟩, grown_trans hg hgA⟩
  · have := hv b e; have := hB b hb; omega
  · have := hq.lt b hb
    rintro ((e | e) | ⟨i, hi, -⟩)
    · omega
    · cases e
    · exact absurd hi (Nat.not_lt_zero _)
  · rintro b hb
    have := hr.lt b hb
    rintro ((e | e) | ⟨i, hi, -⟩)
    · omega
    · cases e
    · exact absurd hi (Nat.not_lt_zero _)
  · have := hv b hb; omega
end
end Go.Proofs.YtiakbgdeanllnaaDoor
