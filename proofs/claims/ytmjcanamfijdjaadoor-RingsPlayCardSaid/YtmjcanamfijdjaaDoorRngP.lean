/- RingsPlay: a ring, the reference's, and the book beside each other, with a block X of the law's own. -/
import Derived.Test.YtmjcanamfijdjaaDoorRngRef4
import Derived.Test.YtmjcanamfijdjaaDoorBkI8
import Derived.Test.YtmjcanamfijdjaaDoorSameI
namespace Go.Proofs.YtmjcanamfijdjaaDoor
open Go.RowKit Go.Shelf Tk
set_option linter.unusedVariables false
set_option linter.unusedSimpArgs false
theorem BkInt.BkL.fr {w w' : World} {base K q : Nat} {rv : Value} {V U : Nat → Value} {N : Nat → Nat} {S : Nat → Prop} (h : BkInt.BkL base w K rv q V U N) (g : Fr S w w') (hs : ∀ b, BkInt.OwnB K rv b ∨ BkInt.OwnV q V b → ¬ S b) : BkInt.BkL base w' K rv q V U N :=
  ⟨h.bk.fr g (hs _ (.inl (.inl rfl))) (fun b hb => hs b (.inl (.inr hb))), fun i hi => by
    obtain ⟨xs, hl, hL⟩ := h.ls i hi
    exact ⟨xs, hl, hL.fr g (fun b hb => hs b (.inr ⟨i, hi, hb⟩))⟩, h.us, h.ap, h.sep, h.lo, h.len⟩
theorem BkInt.BkL.lt {w : World} {base K q : Nat} {rv : Value} {V U : Nat → Value} {N : Nat → Nat} (h : BkInt.BkL base w K rv q V U N) : ∀ b, BkInt.OwnB K rv b ∨ BkInt.OwnV q V b → b < w.heap.size := by
  rintro b (hb | ⟨i, hi, hb⟩)
  · exact h.bk.lt b hb
  · obtain ⟨xs, -, hL⟩ := h.ls i hi; exact hL.lt b hb
theorem Rg.fr {w w' : World} {B M m f : Nat} {ns : List Int} {c : Nat → Int} {S : Nat → Prop} (h : Rg w B M m ns f c) (g : Fr S w w') (h1 : ¬ S B) (h2 : ¬ S M) : Rg w' B M m ns f c := ⟨h.hdr.fr g h1, h.blk.fr g h2, h.ne, h.fl, h.le, h.mm, h.get⟩
theorem Rg.lt {w : World} {B M m f : Nat} {ns : List Int} {c : Nat → Int} (h : Rg w B M m ns f c) : ∀ b, BM B M b → b < w.heap.size := by
  rintro b (rfl | rfl)
  · exact h.hdr.lt
  · exact h.blk.lt
/-- All together, with what is hidden. -/
structure QPW (w0 w : World) (B M R K m k : Nat) (msA msB : List Int) (f : Nat) (c : Nat → Int) (v rv : Value) (V U : Nat → Value) (N : Nat → Nat) : Prop where
  que : Rg w B M m msA f c
  ref : RefG.RQ w R m v msB
  bk : BkInt.BkL w0.heap.size w K rv k V U N
  bB : ∀ b, BM B M b → ¬ RefG.OwnQ R v b ∧ ¬ (BkInt.OwnB K rv b ∨ BkInt.OwnV k V b)
  bQ : ∀ b, RefG.OwnQ R v b → ¬ (BkInt.OwnB K rv b ∨ BkInt.OwnV k V b)
  lo : (∀ b, BM B M b → w0.heap.size ≤ b) ∧ ∀ b, RefG.OwnQ R v b → w0.heap.size ≤ b
  g : w0.grownBy w none
def QP (w0 w : World) (B M R K m k : Nat) (msA msB : List Int) : Prop := ∃ f c v rv V U N, QPW w0 w B M R K m k msA msB f c v rv V U N
def QPL (w0 w : World) (B M R K m k : Nat) (msA msB : List Int) (l : Value) (xs : List Int) : Prop := ∃ f c v rv V U N, QPW w0 w B M R K m k msA msB f c v rv V U N ∧ Lg w 3 .i64 l xs ∧
  ∀ b, l.ownBlock = some b → w0.heap.size ≤ b ∧ ¬ BM B M b ∧ ¬ RefG.OwnQ R v b ∧ ¬ (BkInt.OwnB K rv b ∨ BkInt.OwnV k V b)
/-- All, and a block X of the law's own. -/
def QPX (w0 w : World) (B M R K m k X n : Nat) (fX : Nat → Value) (msA msB : List Int) : Prop := ∃ f c v rv V U N, QPW w0 w B M R K m k msA msB f c v rv V U N ∧ ¬ RefG.OwnQ R v X ∧ ¬ BM B M X ∧ Arr w X n fX
section
variable {w0 w w' : World} {B M R K m k X n : Nat} {msA msB ms' : List Int} {fX : Nat → Value}
theorem QP.g (h : QP w0 w B M R K m k msA msB) : w0.grownBy w none := by obtain ⟨f, c, v, rv, V, U, N, h⟩ := h; exact h.g
theorem QPW.keep {f : Nat} {c : Nat → Int} {v rv : Value} {V U : Nat → Value} {N : Nat → Nat} (h : QPW w0 w B M R K m k msA msB f c v rv V U N) (g : w.grownBy w' none) : QPW w0 w' B M R K m k msA msB f c v rv V U N :=
  ⟨h.que.keep g, h.ref.keep g, h.bk.keep g, h.bB, h.bQ, h.lo, grown_trans h.g g⟩
theorem QP.keep (h : QP w0 w B M R K m k msA msB) (g : w.grownBy w' none) : QP w0 w' B M R K m k msA msB := by
  obtain ⟨f, c, v, rv, V, U, N, h⟩ := h; exact ⟨f, c, v, rv, V, U, N, h.keep g⟩
theorem QPL.keep {l : Value} {xs : List Int} (h : QPL w0 w B M R K m k msA msB l xs) (g : w.grownBy w' none) : QPL w0 w' B M R K m k msA msB l xs := by
  obtain ⟨f, c, v, rv, V, U, N, h, hL, hd⟩ := h; exact ⟨f, c, v, rv, V, U, N, h.keep g, hL.keep g, hd⟩
/-- Back from blocks that are all new. -/
theorem grown_new {S : Nat → Prop} (h : w0.grownBy w none) (g : Fr S w w') (hs : ∀ b, S b → w0.heap.size ≤ b) : w0.grownBy w' none := BkInt.grown_fr h g hs
theorem QP.que (h : QP w0 w B M R K m k msA msB) : ∃ f c, Rg w B M m msA f c := by obtain ⟨f, c, v, rv, V, U, N, h⟩ := h; exact ⟨f, c, h.que⟩
theorem QPX.qp (h : QPX w0 w B M R K m k X n fX msA msB) : QP w0 w B M R K m k msA msB := by
  obtain ⟨f, c, v, rv, V, U, N, h, -⟩ := h; exact ⟨f, c, v, rv, V, U, N, h⟩
theorem QPX.arr (h : QPX w0 w B M R K m k X n fX msA msB) : Arr w X n fX := by
  obtain ⟨f, c, v, rv, V, U, N, -, -, -, h⟩ := h; exact h
theorem QPX.keep (h : QPX w0 w B M R K m k X n fX msA msB) (g : w.grownBy w' none) : QPX w0 w' B M R K m k X n fX msA msB := by
  obtain ⟨f, c, v, rv, V, U, N, h, h1, h2, h3⟩ := h; exact ⟨f, c, v, rv, V, U, N, h.keep g, h1, h2, h3.kept g (by simp)⟩
theorem QP.withX (h : QP w0 w B M R K m k msA msB) (cs : Array Value) (T : TypeId) (hA : Arr (w.alloc (.cells cs T)) w.heap.size n fX) : QPX w0 (w.alloc (.cells cs T)) B M R K m k w.heap.size n fX msA msB := by
  obtain ⟨f, c, v, rv, V, U, N, h⟩ := h
  exact ⟨f, c, v, rv, V, U, N, h.keep (World.grownBy_alloc w _ none), fun e => by have := h.ref.lt _ e; omega, fun e => by have := h.que.lt _ e; omega, hA⟩
/-- The ring's step. -/
theorem QPX.obj {F : Nat} {args : Array Value} {E : Ending → Prop} (h : QPX w0 w B M R K m k X n fX msA msB) (hc : ∀ f c, Rg w B M m msA f c → Calls Tryd.prog F args w fun e w' => E e ∧ (∃ f' c', Rg w' B M m ms' f' c') ∧ Fr (BM B M) w w') :
    Calls Tryd.prog F args w fun e w' => E e ∧ QPX w0 w' B M R K m k X n fX ms' msB := by
  obtain ⟨f, c, v, rv, V, U, N, h, h1, h2, h3⟩ := h
  refine (hc f c h.que).mono ?_
  rintro e w' ⟨he, ⟨f', c', hq⟩, fg⟩
  exact ⟨he, f', c', v, rv, V, U, N, ⟨hq, h.ref.fr fg (fun b hb e => (h.bB b e).1 hb), h.bk.fr fg (fun b hb e => (h.bB b e).2 hb), h.bB, h.bQ, h.lo, grown_new h.g fg h.lo.1⟩, h1, h2, h3.fr fg h2⟩
/-- The reference's step. -/
theorem QPX.step {F : Nat} {args : Array Value} {E : Ending → Prop} (h : QPX w0 w B M R K m k X n fX msA msB) (hc : ∀ v, RefG.RQ w R m v msB → Calls Tryd.prog F args w fun e w' => E e ∧ RefG.Post w R m v ms' w') :
    Calls Tryd.prog F args w fun e w' => E e ∧ QPX w0 w' B M R K m k X n fX msA ms' := by
  obtain ⟨f, c, v, rv, V, U, N, h, hX1, hX2, hX3⟩ := h
  refine (hc v h.ref).mono ?_
  rintro e w' ⟨he, v', hR, hF, hat⟩
  have hBl := h.que.lt
  have hXl := hX3.lt
  have hQ : ∀ b, RefG.OwnQ R v' b → RefG.OwnQ R v b ∨ w.heap.size ≤ b := by
    rintro b (e | e)
    · exact .inl (.inl e)
    · exact (hat b e).imp .inr id
  refine ⟨he, f, c, v', rv, V, U, N, ⟨h.que.fr hF (h.bB B (.inl rfl)).1 (h.bB M (.inr rfl)).1, hR, h.bk.fr hF (fun b hb hq => h.bQ b hq hb), fun b hb => ⟨fun hq => ?_, (h.bB b hb).2⟩, fun b hb hk => ?_, ⟨h.lo.1, fun b hb => ?_⟩, grown_new h.g hF h.lo.2⟩, fun hq => ?_, hX2, hX3.fr hF hX1⟩
  · rcases hQ b hq with h1 | h1
    · exact (h.bB b hb).1 h1
    · have := hBl b hb; omega
  · rcases hQ b hb with h1 | h1
    · exact h.bQ b h1 hk
    · have := h.bk.lt b hk; omega
  · rcases hQ b hb with h1 | h1
    · exact h.lo.2 b h1
    · exact Nat.le_trans h.g.size h1
  · rcases hQ X hq with h1 | h1
    · exact hX1 h1
    · omega
/-- A list that was made. -/
theorem QP.list {l : Value} {xs : List Int} (h : QP w0 w B M R K m k msA msB) (g : w.grownBy w' none) (hM : Mine w' w.heap.size 3 .i64 l xs) : QPL w0 w' B M R K m k msA msB l xs := by
  obtain ⟨f, c, v, rv, V, U, N, h⟩ := h
  refine ⟨f, c, v, rv, V, U, N, h.keep g, Lg.of_mine hM, fun b hb => ?_⟩
  have hlt := (World.ownsRow.lt hM b hb).1
  refine ⟨Nat.le_trans h.g.size hlt, fun hq => ?_, fun hq => ?_, fun hk => ?_⟩
  · have := h.que.lt b hq; omega
  · have := h.ref.lt b hq; omega
  · have := h.bk.lt b hk; omega
/-- It is kept. -/
theorem QPL.ints {l : Value} {xs : List Int} (h : QPL w0 w B M R K m k msA msB l xs) (hk : k ≤ 999) (hx : xs.length ≤ 5000) :
    Calls Tryd.prog 19 #[.pointer (some ⟨K, 0, none⟩), l] w fun e w' => (∃ x, e = .returned x) ∧ QP w0 w' B M R K m (k + 1) msA msB := by
  obtain ⟨f, c, v, rv, V, U, N, h, hL, hd⟩ := h
  refine (BkInt.ints_ok h.bk hk hL hx (fun i hi => ?_) (fun b hb hB => (hd b hb).2.2.2 (.inl hB)) (fun b hb => (hd b hb).1) h.g.size).mono ?_
  · rcases e : l.ownBlock with _ | b
    · exact .inl e
    · exact .inr fun e2 => (hd b e).2.2.2 (.inr ⟨i, hi, by rw [← e2, e]⟩)
  rintro e w' ⟨he, rv', hB', hF, hn⟩
  have hBl := h.que.lt
  have hV : ∀ b, BkInt.OwnV (k + 1) (BkInt.up V k l) b → BkInt.OwnV k V b ∨ l.ownBlock = some b := by
    rintro b ⟨i, hi, e⟩
    by_cases hi2 : i = k
    · subst hi2; rw [BkInt.up_same] at e; exact .inr e
    · rw [BkInt.up_ne _ _ hi2] at e; exact .inl ⟨i, by omega, e⟩
  refine ⟨he, f, c, v, rv', _, _, _, h.que.fr hF (fun hb => (h.bB B (.inl rfl)).2 (.inl hb)) (fun hb => (h.bB M (.inr rfl)).2 (.inl hb)), h.ref.fr hF (fun b hb hk2 => h.bQ b hb (.inl hk2)), hB', fun b hb => ⟨(h.bB b hb).1, ?_⟩, fun b hb => ?_, h.lo, grown_new h.g hF (fun b hb => h.bk.lo b (.inr hb))⟩
  · rintro (hb2 | hb2)
    · rcases hn b hb2 with h1 | h1
      · exact (h.bB b hb).2 (.inl h1)
      · have := hBl b hb; omega
    · rcases hV b hb2 with h1 | h1
      · exact (h.bB b hb).2 (.inr h1)
      · exact (hd b h1).2.1 hb
  · rintro (hb2 | hb2)
    · rcases hn b hb2 with h1 | h1
      · exact h.bQ b hb (.inl h1)
      · have := h.ref.lt b hb; omega
    · rcases hV b hb2 with h1 | h1
      · exact h.bQ b hb (.inr h1)
      · exact (hd b h1).2.2.1 hb
theorem QP.apart (h : QP w0 w B M R K m k msA msB) (hk : k ≤ 1000) : Calls Tryd.prog 20 #[.pointer (some ⟨K, 0, none⟩)] w fun e w' => e = .returned (.bool true) ∧ w0.grownBy w' none := by
  obtain ⟨f, c, v, rv, V, U, N, h⟩ := h
  exact (BkInt.apart_own h.bk hk).mono fun e w' ⟨he, hF⟩ => ⟨he, grown_new h.g hF (fun b hb => hb)⟩
theorem QPL.refList {l : Value} {xs : List Int} (h : QPL w0 w B M R K m k msA msB l xs) (hl : msB.length ≤ 2000) :
    Calls Tryd.prog 18 #[.pointer (some ⟨R, 0, none⟩)] w fun e w' => ∃ u, e = .returned u ∧ Mine w' w.heap.size 3 .i64 u msB ∧ w.grownBy w' none := by
  obtain ⟨f, c, v, rv, V, U, N, h, -, -⟩ := h
  exact RefG.list_ok h.ref hl
theorem QP.start {f : Nat} {c : Nat → Int} {v : Value} {ms : List Int} {r : Nat} (T : TypeId) (hq : Rg w B M m ms f c) (hr : RefG.RQ w R m v ms) (hB : ∀ b, BM B M b → w0.heap.size ≤ b ∧ b < r) (hv : ∀ b, RefG.OwnQ R v b → r ≤ b) (hr0 : w0.heap.size ≤ r) (hg : w0.grownBy w none) :
    QP w0 (w.alloc (.cells #[.int .i64 0, .slice none 0 0, .slice none 0 0, .slice none 0 0, .slice none 0 0, .slice none 0 0, .slice none 0 0, .slice none 0 0, .slice none 0 0] T)) B M R w.heap.size m 0 ms ms := by
  have hgA := World.grownBy_alloc w (.cells #[.int .i64 0, .slice none 0 0, .slice none 0 0, .slice none 0 0, .slice none 0 0, .slice none 0 0, .slice none 0 0, .slice none 0 0, .slice none 0 0] T) none
  refine ⟨f, c, _, _, _, _, _, hq.keep hgA, hr.keep hgA, (BkInt.BkU.made (base := w0.heap.size) w T hg.size).toBkL, fun b hb => ⟨fun e => ?_, ?_⟩, ?_, ⟨fun b hb => (hB b hb).1, fun b hb => ?_⟩, grown_trans hg hgA⟩
  · have := hv b e; have := hB b hb; omega
  · have := hq.lt b hb
    rintro ((e | e) | ⟨i, hi, -⟩)
    · omega
    · cases e
    · exact absurd hi (Nat.not_lt_zero _)
  · rintro b hb
    have := hr.lt b hb
    rintro ((e | e) | ⟨i, hi, -⟩)
    · omega
    · cases e
    · exact absurd hi (Nat.not_lt_zero _)
  · have := hv b hb; omega
end
end Go.Proofs.YtmjcanamfijdjaaDoor
