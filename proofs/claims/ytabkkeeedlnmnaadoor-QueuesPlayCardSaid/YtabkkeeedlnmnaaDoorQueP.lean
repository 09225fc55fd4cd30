/- QueuesPlay: a queue, the reference's, and the book beside each other. -/
import Derived.Test.YtabkkeeedlnmnaaDoorQueRef3
import Derived.Test.YtabkkeeedlnmnaaDoorBkW8
import Derived.Test.YtabkkeeedlnmnaaDoorSameW
namespace Go.Proofs.YtabkkeeedlnmnaaDoor
open Go.RowKit Go.Shelf Tk
set_option linter.unusedVariables false
set_option linter.unusedSimpArgs false
theorem BkWord.BkL.fr {w w' : World} {base K q : Nat} {rv : Value} {V U : Nat → Value} {N : Nat → Nat} {S : Nat → Prop} (h : BkWord.BkL base w K rv q V U N) (g : Fr S w w') (hs : ∀ b, BkWord.OwnB K rv b ∨ BkWord.OwnV q V b → ¬ S b) : BkWord.BkL base w' K rv q V U N :=
  ⟨h.bk.fr g (hs _ (.inl (.inl rfl))) (fun b hb => hs b (.inl (.inr hb))), fun i hi => by
    obtain ⟨xs, hl, hL⟩ := h.ls i hi
    exact ⟨xs, hl, hL.fr g (fun b hb => hs b (.inr ⟨i, hi, hb⟩))⟩, h.us, h.ap, h.sep, h.lo, h.len⟩
theorem BkWord.BkL.lt {w : World} {base K q : Nat} {rv : Value} {V U : Nat → Value} {N : Nat → Nat} (h : BkWord.BkL base w K rv q V U N) : ∀ b, BkWord.OwnB K rv b ∨ BkWord.OwnV q V b → b < w.heap.size := by
  rintro b (hb | ⟨i, hi, hb⟩)
  · exact h.bk.lt b hb
  · obtain ⟨xs, -, hL⟩ := h.ls i hi; exact hL.lt b hb
/-- All together, with what is hidden. -/
structure QPW (w0 w : World) (B R K m k : Nat) (msA msB : List Int) (f : Nat) (c : Nat → Int) (v rv : Value) (V U : Nat → Value) (N : Nat → Nat) : Prop where
  que : Que w B m msA f c
  ref : RefQ.RQ w R m v msB
  bk : BkWord.BkL w0.heap.size w K rv k V U N
  bB : ¬ RefQ.OwnQ R v B ∧ ¬ (BkWord.OwnB K rv B ∨ BkWord.OwnV k V B)
  bQ : ∀ b, RefQ.OwnQ R v b → ¬ (BkWord.OwnB K rv b ∨ BkWord.OwnV k V b)
  lo : w0.heap.size ≤ B ∧ ∀ b, RefQ.OwnQ R v b → w0.heap.size ≤ b
  g : w0.grownBy w none
def QP (w0 w : World) (B R K m k : Nat) (msA msB : List Int) : Prop := ∃ f c v rv V U N, QPW w0 w B R K m k msA msB f c v rv V U N
def QPL (w0 w : World) (B R K m k : Nat) (msA msB : List Int) (l : Value) (xs : List Int) : Prop := ∃ f c v rv V U N, QPW w0 w B R K m k msA msB f c v rv V U N ∧ Lg w 22 .u32 l xs ∧
  ∀ b, l.ownBlock = some b → w0.heap.size ≤ b ∧ b ≠ B ∧ ¬ RefQ.OwnQ R v b ∧ ¬ (BkWord.OwnB K rv b ∨ BkWord.OwnV k V b)
variable {w0 w w' : World} {B R K m k : Nat} {msA msB ms' : List Int}
theorem QP.g (h : QP w0 w B R K m k msA msB) : w0.grownBy w none := by obtain ⟨f, c, v, rv, V, U, N, h⟩ := h; exact h.g
theorem QP.le (h : QP w0 w B R K m k msA msB) : msA.length ≤ m ∧ m ≤ 64 := by obtain ⟨f, c, v, rv, V, U, N, h⟩ := h; exact ⟨h.que.le, h.que.m64⟩
theorem QPW.keep {f : Nat} {c : Nat → Int} {v rv : Value} {V U : Nat → Value} {N : Nat → Nat} (h : QPW w0 w B R K m k msA msB f c v rv V U N) (g : w.grownBy w' none) : QPW w0 w' B R K m k msA msB f c v rv V U N :=
  ⟨h.que.keep g, h.ref.keep g, h.bk.keep g, h.bB, h.bQ, h.lo, grown_trans h.g g⟩
theorem QP.keep (h : QP w0 w B R K m k msA msB) (g : w.grownBy w' none) : QP w0 w' B R K m k msA msB := by
  obtain ⟨f, c, v, rv, V, U, N, h⟩ := h; exact ⟨f, c, v, rv, V, U, N, h.keep g⟩
theorem QPL.keep {l : Value} {xs : List Int} (h : QPL w0 w B R K m k msA msB l xs) (g : w.grownBy w' none) : QPL w0 w' B R K m k msA msB l xs := by
  obtain ⟨f, c, v, rv, V, U, N, h, hL, hd⟩ := h; exact ⟨f, c, v, rv, V, U, N, h.keep g, hL.keep g, hd⟩
/-- Back from blocks that are all new. -/
theorem grown_new {S : Nat → Prop} (h : w0.grownBy w none) (g : Fr S w w') (hs : ∀ b, S b → w0.heap.size ≤ b) : w0.grownBy w' none := BkWord.grown_fr h g hs
theorem QP.que (h : QP w0 w B R K m k msA msB) : ∃ f c, Que w B m msA f c := by obtain ⟨f, c, v, rv, V, U, N, h⟩ := h; exact ⟨f, c, h.que⟩
/-- The queue's step. -/
theorem QP.obj (h : QP w0 w B R K m k msA msB) (g : w.grownBy w' (some B)) (hq : ∃ f c, Que w' B m ms' f c) : QP w0 w' B R K m k ms' msB := by
  obtain ⟨f, c, v, rv, V, U, N, h⟩ := h
  obtain ⟨f', c', hq⟩ := hq
  have fg : Fr (fun b => b = B) w w' := Fr.of_grown g (fun k e _ => by cases e; rfl)
  exact ⟨f', c', v, rv, V, U, N, hq, h.ref.fr fg (fun b hb e => h.bB.1 (e ▸ hb)), h.bk.fr fg (fun b hb e => h.bB.2 (e ▸ hb)), h.bB, h.bQ, h.lo, grown_new h.g fg (fun b e => by rw [e]; exact h.lo.1)⟩
/-- The reference's step. -/
theorem QP.step {F : Nat} {args : Array Value} {E : Ending → Prop} (h : QP w0 w B R K m k msA msB) (hc : ∀ v, RefQ.RQ w R m v msB → Calls Tryd.prog F args w fun e w' => E e ∧ RefQ.Post w R m v ms' w') :
    Calls Tryd.prog F args w fun e w' => E e ∧ QP w0 w' B R K m k msA ms' := by
  obtain ⟨f, c, v, rv, V, U, N, h⟩ := h
  refine (hc v h.ref).mono ?_
  rintro e w' ⟨he, v', hR, hF, hat⟩
  refine ⟨he, f, c, v', rv, V, U, N, ?_⟩
  have hBl := h.que.arr.lt
  have hQ : ∀ b, RefQ.OwnQ R v' b → RefQ.OwnQ R v b ∨ w.heap.size ≤ b := by
    rintro b (e | e)
    · exact .inl (.inl e)
    · exact (hat b e).imp .inr id
  refine ⟨⟨h.que.arr.fr hF h.bB.1, h.que.fl, h.que.le, h.que.m64, h.que.m1, h.que.get⟩, hR, h.bk.fr hF (fun b hb hq => h.bQ b hq hb), ⟨fun hq => ?_, h.bB.2⟩, fun b hb hk => ?_, ⟨h.lo.1, fun b hb => ?_⟩, grown_new h.g hF h.lo.2⟩
  · rcases hQ B hq with h1 | h1
    · exact h.bB.1 h1
    · omega
  · rcases hQ b hb with h1 | h1
    · exact h.bQ b h1 hk
    · have := h.bk.lt b hk; omega
  · rcases hQ b hb with h1 | h1
    · exact h.lo.2 b h1
    · exact Nat.le_trans h.g.size h1
/-- A list that was made. -/
theorem QP.list {l : Value} {xs : List Int} (h : QP w0 w B R K m k msA msB) (g : w.grownBy w' none) (hM : Mine w' w.heap.size 22 .u32 l xs) : QPL w0 w' B R K m k msA msB l xs := by
  obtain ⟨f, c, v, rv, V, U, N, h⟩ := h
  refine ⟨f, c, v, rv, V, U, N, h.keep g, Lg.of_mine hM, fun b hb => ?_⟩
  have hlt := (World.ownsRow.lt hM b hb).1
  have hBl := h.que.arr.lt
  refine ⟨Nat.le_trans h.g.size hlt, by omega, fun hq => ?_, fun hk => ?_⟩
  · have := h.ref.lt b hq; omega
  · have := h.bk.lt b hk; omega
/-- It is kept. -/
theorem QPL.words {l : Value} {xs : List Int} (h : QPL w0 w B R K m k msA msB l xs) (hk : k ≤ 999) (hx : xs.length ≤ 5000) :
    Calls Tryd.prog 26 #[.pointer (some ⟨K, 0, none⟩), l] w fun e w' => (∃ x, e = .returned x) ∧ QP w0 w' B R K m (k + 1) msA msB := by
  obtain ⟨f, c, v, rv, V, U, N, h, hL, hd⟩ := h
  refine (BkWord.ints_ok h.bk hk hL hx (fun i hi => ?_) (fun b hb hB => (hd b hb).2.2.2 (.inl hB)) (fun b hb => (hd b hb).1) h.g.size).mono ?_
  · rcases e : l.ownBlock with _ | b
    · exact .inl e
    · exact .inr fun e2 => (hd b e).2.2.2 (.inr ⟨i, hi, by rw [← e2, e]⟩)
  rintro e w' ⟨he, rv', hB', hF, hn⟩
  have hBl := h.que.arr.lt
  have hV : ∀ b, BkWord.OwnV (k + 1) (BkWord.up V k l) b → BkWord.OwnV k V b ∨ l.ownBlock = some b := by
    rintro b ⟨i, hi, e⟩
    by_cases hi2 : i = k
    · subst hi2; rw [BkWord.up_same] at e; exact .inr e
    · rw [BkWord.up_ne _ _ hi2] at e; exact .inl ⟨i, by omega, e⟩
  refine ⟨he, f, c, v, rv', _, _, _, ⟨h.que.arr.fr hF (fun hb => h.bB.2 (.inl hb)), h.que.fl, h.que.le, h.que.m64, h.que.m1, h.que.get⟩, h.ref.fr hF (fun b hb hk2 => h.bQ b hb (.inl hk2)), hB', ⟨h.bB.1, ?_⟩, fun b hb => ?_, h.lo, grown_new h.g hF (fun b hb => h.bk.lo b (.inr hb))⟩
  · rintro (hb | hb)
    · rcases hn B hb with h1 | h1
      · exact h.bB.2 (.inl h1)
      · omega
    · rcases hV B hb with h1 | h1
      · exact h.bB.2 (.inr h1)
      · exact (hd B h1).2.1 rfl
  · rintro (hb2 | hb2)
    · rcases hn b hb2 with h1 | h1
      · exact h.bQ b hb (.inl h1)
      · have := h.ref.lt b hb; omega
    · rcases hV b hb2 with h1 | h1
      · exact h.bQ b hb (.inr h1)
      · exact (hd b h1).2.2.1 hb
theorem QP.apart (h : QP w0 w B R K m k msA msB) (hk : k ≤ 1000) : Calls Tryd.prog 14 #[.pointer (some ⟨K, 0, none⟩)] w fun e w' => e = .returned (.bool true) ∧ w0.grownBy w' none := by
  obtain ⟨f, c, v, rv, V, U, N, h⟩ := h
  exact (BkWord.apart_own h.bk hk).mono fun e w' ⟨he, hF⟩ => ⟨he, grown_new h.g hF (fun b hb => hb)⟩
/-- The steps, both alike. -/
theorem post_same {v : Value} {ms : List Int} (h : RefQ.RQ w R m v ms) (g : w.grownBy w' none) : RefQ.Post w R m v ms w' := ⟨v, h.keep g, Fr.of_grown g (by simp), fun b hb => .inl hb⟩
theorem grown_wide {r : Option Nat} (g : w.grownBy w' none) : w.grownBy w' r := ⟨g.os, g.tape, g.output, g.size, fun k hk _ => g.block k hk (by simp)⟩
theorem pair_put (x : Int) (ms : List Int) (h64 : m ≤ 64) (hle : ms.length ≤ m) : ∃ (g : Int) (ms' : List Int), (∀ w f c, Que w B m ms f c → Calls Tryd.prog 45 #[.pointer (some ⟨B, 0, none⟩), .int .u32 x] w fun e w' => e = .returned (.int .i64 g) ∧ (∃ f' c', Que w' B m ms' f' c') ∧ w.grownBy w' (some B)) ∧
    (∀ w v, RefQ.RQ w R m v ms → Calls Tryd.prog 46 #[.pointer (some ⟨R, 0, none⟩), .int .u32 x] w fun e w' => e = .returned (.int .i64 g) ∧ RefQ.Post w R m v ms' w') := by
  by_cases hlt : ms.length < m
  · exact ⟨0, ms ++ [x], fun w f c h => (put_ok x w h hlt).mono fun e w' ⟨he, ⟨c', hc⟩, hg⟩ => ⟨he, ⟨f, c', hc⟩, hg⟩, fun w v h => RefQ.put_ok x h hlt h64⟩
  · refine ⟨10, ms, fun w f c h => (put_no _ _ 10 (by decide) w (room_full w h (by omega))).mono fun e w' ⟨he, hg⟩ => ⟨he, ⟨f, c, h.keep hg⟩, grown_wide hg⟩, fun w v h => (RefQ.put_full x h (by omega) h64).mono fun e w' ⟨he, hg⟩ => ⟨he, post_same h hg⟩⟩
theorem pair_push (x : Int) (ms : List Int) (h64 : m ≤ 64) (hle : ms.length ≤ m) : ∃ (g : Int) (ms' : List Int), (∀ w f c, Que w B m ms f c → Calls Tryd.prog 47 #[.pointer (some ⟨B, 0, none⟩), .int .u32 x] w fun e w' => e = .returned (.int .i64 g) ∧ (∃ f' c', Que w' B m ms' f' c') ∧ w.grownBy w' (some B)) ∧
    (∀ w v, RefQ.RQ w R m v ms → Calls Tryd.prog 48 #[.pointer (some ⟨R, 0, none⟩), .int .u32 x] w fun e w' => e = .returned (.int .i64 g) ∧ RefQ.Post w R m v ms' w') := by
  by_cases hlt : ms.length < m
  · exact ⟨0, x :: ms, fun w f c h => (push_ok x w h hlt).mono fun e w' ⟨he, ⟨f', c', hc⟩, hg⟩ => ⟨he, ⟨f', c', hc⟩, hg⟩, fun w v h => RefQ.push_ok x h hlt h64⟩
  · refine ⟨10, ms, fun w f c h => (push_no _ _ 10 (by decide) w (room_full w h (by omega))).mono fun e w' ⟨he, hg⟩ => ⟨he, ⟨f, c, h.keep hg⟩, grown_wide hg⟩, fun w v h => (RefQ.push_full x h (by omega) h64).mono fun e w' ⟨he, hg⟩ => ⟨he, post_same h hg⟩⟩
theorem pair_take (ms : List Int) (h64 : m ≤ 64) (hle : ms.length ≤ m) : ∃ (x g : Int) (ms' : List Int), (∀ w f c, Que w B m ms f c → Calls Tryd.prog 49 #[.pointer (some ⟨B, 0, none⟩)] w fun e w' => e = .returned (.tuple #[.int .u32 x, .int .i64 g]) ∧ (∃ f' c', Que w' B m ms' f' c') ∧ w.grownBy w' (some B)) ∧
    (∀ w v, RefQ.RQ w R m v ms → Calls Tryd.prog 50 #[.pointer (some ⟨R, 0, none⟩)] w fun e w' => e = .returned (.tuple #[.int .u32 x, .int .i64 g]) ∧ RefQ.Post w R m v ms' w') := by
  cases ms with
  | nil => exact ⟨0, 11, [], fun w f c h => (take_no _ 11 (by decide) w (peek_empty w h)).mono fun e w' ⟨he, hw⟩ => ⟨he, ⟨f, c, hw ▸ h⟩, hw ▸ grown_refl _ _⟩, fun w v h => (RefQ.take_empty h).mono fun e w' ⟨he, hw⟩ => ⟨he, hw ▸ post_same h (grown_refl _ _)⟩⟩
  | cons x ms => exact ⟨x, 0, ms, fun w f c h => (take_ok w h).mono fun e w' ⟨he, ⟨f', hc⟩, hg⟩ => ⟨he, ⟨f', c, hc⟩, hg⟩, fun w v h => RefQ.take_ok x h (by simp at hle; omega)⟩
theorem pair_peek (ms : List Int) (h64 : m ≤ 64) (hle : ms.length ≤ m) : ∃ (x g : Int) (ms' : List Int), (∀ w f c, Que w B m ms f c → Calls Tryd.prog 51 #[.pointer (some ⟨B, 0, none⟩)] w fun e w' => e = .returned (.tuple #[.int .u32 x, .int .i64 g]) ∧ (∃ f' c', Que w' B m ms' f' c') ∧ w.grownBy w' (some B)) ∧
    (∀ w v, RefQ.RQ w R m v ms → Calls Tryd.prog 52 #[.pointer (some ⟨R, 0, none⟩)] w fun e w' => e = .returned (.tuple #[.int .u32 x, .int .i64 g]) ∧ RefQ.Post w R m v ms' w') := by
  cases ms with
  | nil => exact ⟨0, 11, [], fun w f c h => (peek_empty w h).mono fun e w' ⟨he, hw⟩ => ⟨he, ⟨f, c, hw ▸ h⟩, hw ▸ grown_refl _ _⟩, fun w v h => (RefQ.peek_empty h).mono fun e w' ⟨he, hw⟩ => ⟨he, hw ▸ post_same h (grown_refl _ _)⟩⟩
  | cons x ms => exact ⟨x, 0, x :: ms, fun w f c h => (peek_ok w h).mono fun e w' ⟨he, n, hw⟩ => ⟨he, ⟨f, c, hw ▸ h.keep (grown_drewN (grown_refl _ _) n)⟩, hw ▸ grown_drewN (grown_refl _ _) n⟩, fun w v h => (RefQ.peek_ok x h (by simp at hle; omega)).mono fun e w' ⟨he, hw⟩ => ⟨he, hw ▸ post_same h (grown_refl _ _)⟩⟩
end Go.Proofs.YtabkkeeedlnmnaaDoor
