/- ReadyPlays: a queue, the reference's, and the book beside each other, with a block X of the law's own. -/
import Derived.Test.YtdbddfbdhgohbaaGreatDoorRdyP
import Derived.Test.YtdbddfbdhgohbaaGreatDoorBkI8
import Derived.Test.YtdbddfbdhgohbaaGreatDoorSameI
namespace Go.Proofs.YtdbddfbdhgohbaaGreatDoor
open Go.RowKit Go.Shelf Tk Tk.Rdy
set_option linter.unusedVariables false
set_option linter.unusedSimpArgs false
theorem BkInt.BkL.fr {w w' : World} {base K q : Nat} {rv : Value} {V U : Nat → Value} {N : Nat → Nat} {S : Nat → Prop} (h : BkInt.BkL base w K rv q V U N) (g : Fr S w w') (hs : ∀ b, BkInt.OwnB K rv b ∨ BkInt.OwnV q V b → ¬ S b) : BkInt.BkL base w' K rv q V U N :=
  ⟨h.bk.fr g (hs _ (.inl (.inl rfl))) (fun b hb => hs b (.inl (.inr hb))), fun i hi => by
    obtain ⟨xs, hl, hL⟩ := h.ls i hi
    exact ⟨xs, hl, hL.fr g (fun b hb => hs b (.inr ⟨i, hi, hb⟩))⟩, h.us, h.ap, h.sep, h.lo, h.len⟩
theorem BkInt.BkL.lt {w : World} {base K q : Nat} {rv : Value} {V U : Nat → Value} {N : Nat → Nat} (h : BkInt.BkL base w K rv q V U N) : ∀ b, BkInt.OwnB K rv b ∨ BkInt.OwnV q V b → b < w.heap.size := by
  rintro b (hb | ⟨i, hi, hb⟩)
  · exact h.bk.lt b hb
  · obtain ⟨xs, -, hL⟩ := h.ls i hi; exact hL.lt b hb
theorem rq_fr {w w' : World} {Q : Nat} {Bs Ms : Nat → Nat} {s : Stt} {S : Nat → Prop} (h : RqS w Q Bs Ms s) (g : Fr S w w') (hs : ∀ b, OwnQ Q Bs Ms b → ¬ S b) : RqS w' Q Bs Ms s :=
  ⟨h.hdr.fr g (hs _ (.inl rfl)), fun r hr => by
    obtain ⟨f, c, hR⟩ := h.rg r hr
    exact ⟨f, c, hR.fr g (hs _ (.inr ⟨r, hr, .inl rfl⟩)) (hs _ (.inr ⟨r, hr, .inr rfl⟩))⟩, h.ap, h.ap2⟩
theorem rq_lt {w : World} {Q : Nat} {Bs Ms : Nat → Nat} {s : Stt} (h : RqS w Q Bs Ms s) : ∀ b, OwnQ Q Bs Ms b → b < w.heap.size := by
  rintro b (rfl | ⟨r, hr, e⟩)
  · exact h.hdr.lt
  · obtain ⟨f, c, hR⟩ := h.rg r hr
    rcases e with rfl | rfl
    · exact hR.hdr.lt
    · exact hR.blk.lt
/-- All together, with what is hidden. -/
structure QPW (w0 w : World) (Q : Nat) (Bs Ms : Nat → Nat) (R K k : Nat) (nsA nsB : Stt) (v : Nat → Value) (rv : Value) (V U : Nat → Value) (N : Nat → Nat) : Prop where
  que : RqS w Q Bs Ms nsA
  ref : RefD.RQ w R v nsB.ls
  bk : BkInt.BkL w0.heap.size w K rv k V U N
  bB : ∀ b, OwnQ Q Bs Ms b → ¬ RefD.OwnR R v b ∧ ¬ (BkInt.OwnB K rv b ∨ BkInt.OwnV k V b)
  bQ : ∀ b, RefD.OwnR R v b → ¬ (BkInt.OwnB K rv b ∨ BkInt.OwnV k V b)
  lo : (∀ b, OwnQ Q Bs Ms b → w0.heap.size ≤ b) ∧ ∀ b, RefD.OwnR R v b → w0.heap.size ≤ b
  g : w0.grownBy w none
def QP (w0 w : World) (Q : Nat) (Bs Ms : Nat → Nat) (R K k : Nat) (nsA nsB : Stt) : Prop := ∃ v rv V U N, QPW w0 w Q Bs Ms R K k nsA nsB v rv V U N
def QPL (w0 w : World) (Q : Nat) (Bs Ms : Nat → Nat) (R K k : Nat) (nsA nsB : Stt) (u : Value) (xs : List Int) : Prop := ∃ v rv V U N, QPW w0 w Q Bs Ms R K k nsA nsB v rv V U N ∧ Lg w 3 .i64 u xs ∧
  ∀ b, u.ownBlock = some b → w0.heap.size ≤ b ∧ ¬ OwnQ Q Bs Ms b ∧ ¬ RefD.OwnR R v b ∧ ¬ (BkInt.OwnB K rv b ∨ BkInt.OwnV k V b)
/-- All, and a block X of the law's own. -/
def QPX (w0 w : World) (Q : Nat) (Bs Ms : Nat → Nat) (R K k X n : Nat) (fX : Nat → Value) (nsA nsB : Stt) : Prop := ∃ v rv V U N, QPW w0 w Q Bs Ms R K k nsA nsB v rv V U N ∧ ¬ RefD.OwnR R v X ∧ ¬ OwnQ Q Bs Ms X ∧ Arr w X n fX
section
variable {w0 w w' : World} {Q R K k X n : Nat} {Bs Ms : Nat → Nat} {nsA nsB ns' : Stt} {fX : Nat → Value}
theorem QP.g (h : QP w0 w Q Bs Ms R K k nsA nsB) : w0.grownBy w none := by obtain ⟨v, rv, V, U, N, h⟩ := h; exact h.g
theorem QPW.keep {v : Nat → Value} {rv : Value} {V U : Nat → Value} {N : Nat → Nat} (h : QPW w0 w Q Bs Ms R K k nsA nsB v rv V U N) (g : w.grownBy w' none) : QPW w0 w' Q Bs Ms R K k nsA nsB v rv V U N :=
  ⟨Rq.keep h.que g, h.ref.keep g, h.bk.keep g, h.bB, h.bQ, h.lo, grown_trans h.g g⟩
theorem QP.keep (h : QP w0 w Q Bs Ms R K k nsA nsB) (g : w.grownBy w' none) : QP w0 w' Q Bs Ms R K k nsA nsB := by
  obtain ⟨v, rv, V, U, N, h⟩ := h; exact ⟨v, rv, V, U, N, h.keep g⟩
theorem QPL.keep {u : Value} {xs : List Int} (h : QPL w0 w Q Bs Ms R K k nsA nsB u xs) (g : w.grownBy w' none) : QPL w0 w' Q Bs Ms R K k nsA nsB u xs := by
  obtain ⟨v, rv, V, U, N, h, hL, hd2⟩ := h; exact ⟨v, rv, V, U, N, h.keep g, hL.keep g, hd2⟩
/-- Back from blocks that are all new. -/
theorem grown_new {S : Nat → Prop} (h : w0.grownBy w none) (g : Fr S w w') (hs : ∀ b, S b → w0.heap.size ≤ b) : w0.grownBy w' none := BkInt.grown_fr h g hs
theorem QPX.qp (h : QPX w0 w Q Bs Ms R K k X n fX nsA nsB) : QP w0 w Q Bs Ms R K k nsA nsB := by
  obtain ⟨v, rv, V, U, N, h, -⟩ := h; exact ⟨v, rv, V, U, N, h⟩
theorem QPX.arr (h : QPX w0 w Q Bs Ms R K k X n fX nsA nsB) : Arr w X n fX := by
  obtain ⟨v, rv, V, U, N, -, -, -, h⟩ := h; exact h
theorem QP.withX (h : QP w0 w Q Bs Ms R K k nsA nsB) (cs : Array Value) (T : TypeId) (hA : Arr (w.alloc (.cells cs T)) w.heap.size n fX) : QPX w0 (w.alloc (.cells cs T)) Q Bs Ms R K k w.heap.size n fX nsA nsB := by
  obtain ⟨v, rv, V, U, N, h⟩ := h
  exact ⟨v, rv, V, U, N, h.keep (World.grownBy_alloc w _ none), fun e => by have := h.ref.lt _ e; omega, fun e => by have := rq_lt h.que _ e; omega, hA⟩
theorem QPX.keep (h : QPX w0 w Q Bs Ms R K k X n fX nsA nsB) (g : w.grownBy w' none) : QPX w0 w' Q Bs Ms R K k X n fX nsA nsB := by
  obtain ⟨v, rv, V, U, N, h, h1, h2, h3⟩ := h; exact ⟨v, rv, V, U, N, h.keep g, h1, h2, h3.kept g (by simp)⟩
/-- The queue's step. -/
theorem QPX.obj {F : Nat} {args : Array Value} {E : Ending → Prop} (h : QPX w0 w Q Bs Ms R K k X n fX nsA nsB) (hc : StA Q Bs Ms F args E nsA ns') :
    Calls Tryz.prog F args w fun e w' => E e ∧ QPX w0 w' Q Bs Ms R K k X n fX ns' nsB := by
  obtain ⟨v, rv, V, U, N, h, h1, h2, h3⟩ := h
  refine (hc w h.que).mono ?_
  rintro e w' ⟨he, hq, fg⟩
  exact ⟨he, v, rv, V, U, N, ⟨hq, h.ref.fr fg (fun b hb e => (h.bB b e).1 hb), h.bk.fr fg (fun b hb e => (h.bB b e).2 hb), h.bB, h.bQ, h.lo, grown_new h.g fg h.lo.1⟩, h1, h2, h3.fr fg h2⟩
/-- The reference's step. -/
theorem QPX.step {F : Nat} {args : Array Value} {E : Ending → Prop} (h : QPX w0 w Q Bs Ms R K k X n fX nsA nsB) (hc : StB R F args E nsB ns') :
    Calls Tryz.prog F args w fun e w' => E e ∧ QPX w0 w' Q Bs Ms R K k X n fX nsA ns' := by
  obtain ⟨v, rv, V, U, N, h, hX1, hX2, hX3⟩ := h
  refine (hc w v h.ref).mono ?_
  rintro e w' ⟨he, v', hR, hF, hat⟩
  have hBl := rq_lt h.que
  have hXl := hX3.lt
  have hQ : ∀ b, RefD.OwnR R v' b → RefD.OwnR R v b ∨ w.heap.size ≤ b := by
    rintro b (e | ⟨r, hr, e⟩)
    · exact .inl (.inl e)
    · exact hat r b hr e
  refine ⟨he, v', rv, V, U, N, ⟨rq_fr h.que hF (fun b hb => (h.bB b hb).1), hR, h.bk.fr hF (fun b hb hq => h.bQ b hq hb), fun b hb => ⟨fun hq => ?_, (h.bB b hb).2⟩, fun b hb hk => ?_, ⟨h.lo.1, fun b hb => ?_⟩, grown_new h.g hF h.lo.2⟩, fun hq => ?_, hX2, hX3.fr hF hX1⟩
  · rcases hQ b hq with h1 | h1
    · exact (h.bB b hb).1 h1
    · have := hBl b hb; omega
  · rcases hQ b hb with h1 | h1
    · exact h.bQ b h1 hk
    · have := h.bk.lt b hk; omega
  · rcases hQ b hb with h1 | h1
    · exact h.lo.2 b h1
    · exact Nat.le_trans h.g.size h1
  · rcases hQ X hq with h1 | h1
    · exact hX1 h1
    · omega
/-- A list that was made. -/
theorem QP.list {u : Value} {xs : List Int} (h : QP w0 w Q Bs Ms R K k nsA nsB) (g : w.grownBy w' none) (hM : Mine w' w.heap.size 3 .i64 u xs) : QPL w0 w' Q Bs Ms R K k nsA nsB u xs := by
  obtain ⟨v, rv, V, U, N, h⟩ := h
  refine ⟨v, rv, V, U, N, h.keep g, Lg.of_mine hM, fun b hb => ?_⟩
  have hlt := (World.ownsRow.lt hM b hb).1
  refine ⟨Nat.le_trans h.g.size hlt, fun hq => ?_, fun hq => ?_, fun hk => ?_⟩
  · have := rq_lt h.que b hq; omega
  · have := h.ref.lt b hq; omega
  · have := h.bk.lt b hk; omega
/-- It is kept. -/
theorem QPL.ints {u : Value} {xs : List Int} (h : QPL w0 w Q Bs Ms R K k nsA nsB u xs) (hk : k ≤ 999) (hx : xs.length ≤ 5000) :
    Calls Tryz.prog 16 #[.pointer (some ⟨K, 0, none⟩), u] w fun e w' => (∃ x, e = .returned x) ∧ QP w0 w' Q Bs Ms R K (k + 1) nsA nsB := by
  obtain ⟨v, rv, V, U, N, h, hL, hd2⟩ := h
  refine (BkInt.ints_ok h.bk hk hL hx (fun i hi => ?_) (fun b hb hB => (hd2 b hb).2.2.2 (.inl hB)) (fun b hb => (hd2 b hb).1) h.g.size).mono ?_
  · rcases e : u.ownBlock with _ | b
    · exact .inl e
    · exact .inr fun e2 => (hd2 b e).2.2.2 (.inr ⟨i, hi, by rw [← e2, e]⟩)
  rintro e w' ⟨he, rv', hB', hF, hn⟩
  have hBl := rq_lt h.que
  have hV : ∀ b, BkInt.OwnV (k + 1) (BkInt.up V k u) b → BkInt.OwnV k V b ∨ u.ownBlock = some b := by
    rintro b ⟨i, hi, e⟩
    by_cases hi2 : i = k
    · subst hi2; rw [BkInt.up_same] at e; exact .inr e
    · rw [BkInt.up_ne _ _ hi2] at e; exact .inl ⟨i, by omega, e⟩
  refine ⟨he, v, rv', _, _, _, rq_fr h.que hF (fun b hb hB => (h.bB b hb).2 (.inl hB)), h.ref.fr hF (fun b hb hk2 => h.bQ b hb (.inl hk2)), hB', fun b hb => ⟨(h.bB b hb).1, ?_⟩, fun b hb => ?_, h.lo, grown_new h.g hF (fun b hb => h.bk.lo b (.inr hb))⟩
  · rintro (hb2 | hb2)
    · rcases hn b hb2 with h1 | h1
      · exact (h.bB b hb).2 (.inl h1)
      · have := hBl b hb; omega
    · rcases hV b hb2 with h1 | h1
      · exact (h.bB b hb).2 (.inr h1)
      · exact (hd2 b h1).2.1 hb
  · rintro (hb2 | hb2)
    · rcases hn b hb2 with h1 | h1
      · exact h.bQ b hb (.inl h1)
      · have := h.ref.lt b hb; omega
    · rcases hV b hb2 with h1 | h1
      · exact h.bQ b hb (.inr h1)
      · exact (hd2 b h1).2.2.1 hb
theorem QP.apart (h : QP w0 w Q Bs Ms R K k nsA nsB) (hk : k ≤ 1000) : Calls Tryz.prog 17 #[.pointer (some ⟨K, 0, none⟩)] w fun e w' => e = .returned (.bool true) ∧ w0.grownBy w' none := by
  obtain ⟨v, rv, V, U, N, h⟩ := h
  exact (BkInt.apart_own h.bk hk).mono fun e w' ⟨he, hF⟩ => ⟨he, grown_new h.g hF (fun b hb => hb)⟩
theorem QPX.que (h : QPX w0 w Q Bs Ms R K k X n fX nsA nsB) : RqS w Q Bs Ms nsA := by obtain ⟨v, rv, V, U, N, h, -⟩ := h; exact h.que
theorem QPX.refFirst (h : QPX w0 w Q Bs Ms R K k X n fX nsA nsB) (ho : nsB.ok) :
    Calls Tryz.prog 10 #[.pointer (some ⟨R, 0, none⟩)] w fun e w' => e = .returned (.tuple #[.int .i64 (fstV nsB).1, .bool (fstV nsB).2]) ∧ w = w' := by
  obtain ⟨v, rv, V, U, N, h, -⟩ := h; exact first_ref h.ref ho
theorem QPX.refRank (h : QPX w0 w Q Bs Ms R K k X n fX nsA nsB) (ho : nsB.ok) (x : Int) :
    Calls Tryz.prog 12 #[.pointer (some ⟨R, 0, none⟩), .int .i64 x] w fun e w' => e = .returned (.tuple #[.int .i64 (RefD.rankV nsB.rk x).1, .bool (RefD.rankV nsB.rk x).2]) ∧ w = w' := by
  obtain ⟨v, rv, V, U, N, h, -⟩ := h; exact RefD.rank_ok h.ref ho x
theorem QPL.refList {u : Value} {xs : List Int} (h : QPL w0 w Q Bs Ms R K k nsA nsB u xs) (ho : nsB.ok) (r : Int) :
    Calls Tryz.prog 15 #[.pointer (some ⟨R, 0, none⟩), .int .i64 r] w fun e w' => ∃ y, e = .returned y ∧ Mine w' w.heap.size 3 .i64 y (lsV nsB r) ∧ w.grownBy w' none := by
  obtain ⟨v, rv, V, U, N, h, -, -⟩ := h
  exact list_ref h.ref ho r
theorem QP.start {v : Nat → Value} {s : Stt} {r : Nat} (T : TypeId) (hq : RqS w Q Bs Ms s) (hr : RefD.RQ w R v s.ls) (hB : ∀ b, OwnQ Q Bs Ms b → w0.heap.size ≤ b ∧ b < r) (hv : ∀ b, RefD.OwnR R v b → r ≤ b) (hr0 : w0.heap.size ≤ r) (hg : w0.grownBy w none) :
    QP w0 (w.alloc (.cells #[.int .i64 0, .slice none 0 0, .slice none 0 0, .slice none 0 0, .slice none 0 0, .slice none 0 0, .slice none 0 0, .slice none 0 0, .slice none 0 0] T)) Q Bs Ms R w.heap.size 0 s s := by
  have hgA := World.grownBy_alloc w (.cells #[.int .i64 0, .slice none 0 0, .slice none 0 0, .slice none 0 0, .slice none 0 0, .slice none 0 0, .slice none 0 0, .slice none 0 0, .slice none 0 0] T) none
  refine ⟨_, _, _, _, _, Rq.keep hq hgA, hr.keep hgA, (BkInt.BkU.made (base := w0.heap.size) w T hg.size).toBkL, fun b hb => ⟨fun e => ?_, ?_⟩, ?_, ⟨fun b hb => (hB b hb).1, fun b hb => ?_⟩, grown_trans hg hgA⟩
  · have := hv b e; have := hB b hb; omega
  · have := rq_lt hq b hb
    rintro ((e | e) | ⟨i, hi, -⟩)
    · omega
    · cases e
    · exact absurd hi (Nat.not_lt_zero _)
  · rintro b hb
    have := hr.lt b hb
    rintro ((e | e) | ⟨i, hi, -⟩)
    · omega
    · cases e
    · exact absurd hi (Nat.not_lt_zero _)
  · have := hv b hb; omega
end
end Go.Proofs.YtdbddfbdhgohbaaGreatDoor
