/- PoolsPlay: a pool, the reference's, and the book beside each other. -/
import Derived.Test.YtabkkeeedlnmnaaDoorPolRef3
import Derived.Test.YtabkkeeedlnmnaaDoorBkW8
import Derived.Test.YtabkkeeedlnmnaaDoorSameW
namespace Go.Proofs.YtabkkeeedlnmnaaDoor
open Go.RowKit Go.Shelf Tk
set_option linter.unusedVariables false
set_option linter.unusedSimpArgs false
theorem BkWord.BkL.fr {w w' : World} {base K q : Nat} {rv : Value} {V U : Nat → Value} {N : Nat → Nat} {S : Nat → Prop} (h : BkWord.BkL base w K rv q V U N) (g : Fr S w w') (hs : ∀ b, BkWord.OwnB K rv b ∨ BkWord.OwnV q V b → ¬ S b) : BkWord.BkL base w' K rv q V U N :=
  ⟨h.bk.fr g (hs _ (.inl (.inl rfl))) (fun b hb => hs b (.inl (.inr hb))), fun i hi => by
    obtain ⟨xs, hl, hL⟩ := h.ls i hi
    exact ⟨xs, hl, hL.fr g (fun b hb => hs b (.inr ⟨i, hi, hb⟩))⟩, h.us, h.ap, h.sep, h.lo, h.len⟩
theorem BkWord.BkL.lt {w : World} {base K q : Nat} {rv : Value} {V U : Nat → Value} {N : Nat → Nat} (h : BkWord.BkL base w K rv q V U N) : ∀ b, BkWord.OwnB K rv b ∨ BkWord.OwnV q V b → b < w.heap.size := by
  rintro b (hb | ⟨i, hi, hb⟩)
  · exact h.bk.lt b hb
  · obtain ⟨xs, -, hL⟩ := h.ls i hi; exact hL.lt b hb
/-- All together, with what is hidden. -/
structure QPW (w0 w : World) (B R K m k : Nat) (msA msB : List Int) (f : Nat) (c : Nat → Int) (v rv : Value) (V U : Nat → Value) (N : Nat → Nat) : Prop where
  que : Pl w B msA
  ref : RefP.RQ w R m v msB
  bk : BkWord.BkL w0.heap.size w K rv k V U N
  bB : ¬ RefP.OwnQ R v B ∧ ¬ (BkWord.OwnB K rv B ∨ BkWord.OwnV k V B)
  bQ : ∀ b, RefP.OwnQ R v b → ¬ (BkWord.OwnB K rv b ∨ BkWord.OwnV k V b)
  lo : w0.heap.size ≤ B ∧ ∀ b, RefP.OwnQ R v b → w0.heap.size ≤ b
  g : w0.grownBy w none
def QP (w0 w : World) (B R K m k : Nat) (msA msB : List Int) : Prop := ∃ f c v rv V U N, QPW w0 w B R K m k msA msB f c v rv V U N
def QPL (w0 w : World) (B R K m k : Nat) (msA msB : List Int) (l : Value) (xs : List Int) : Prop := ∃ f c v rv V U N, QPW w0 w B R K m k msA msB f c v rv V U N ∧ Lg w 22 .u32 l xs ∧
  ∀ b, l.ownBlock = some b → w0.heap.size ≤ b ∧ b ≠ B ∧ ¬ RefP.OwnQ R v b ∧ ¬ (BkWord.OwnB K rv b ∨ BkWord.OwnV k V b)
variable {w0 w w' : World} {B R K m k : Nat} {msA msB ms' : List Int}
theorem QP.g (h : QP w0 w B R K m k msA msB) : w0.grownBy w none := by obtain ⟨f, c, v, rv, V, U, N, h⟩ := h; exact h.g
theorem QP.le (h : QP w0 w B R K m k msA msB) : msA.length ≤ 64 ∧ 1 ≤ msA.length := by obtain ⟨f, c, v, rv, V, U, N, h⟩ := h; exact ⟨h.que.n64, h.que.n1⟩
theorem QPW.keep {f : Nat} {c : Nat → Int} {v rv : Value} {V U : Nat → Value} {N : Nat → Nat} (h : QPW w0 w B R K m k msA msB f c v rv V U N) (g : w.grownBy w' none) : QPW w0 w' B R K m k msA msB f c v rv V U N :=
  ⟨h.que.keep g, h.ref.keep g, h.bk.keep g, h.bB, h.bQ, h.lo, grown_trans h.g g⟩
theorem QP.keep (h : QP w0 w B R K m k msA msB) (g : w.grownBy w' none) : QP w0 w' B R K m k msA msB := by
  obtain ⟨f, c, v, rv, V, U, N, h⟩ := h; exact ⟨f, c, v, rv, V, U, N, h.keep g⟩
theorem QPL.keep {l : Value} {xs : List Int} (h : QPL w0 w B R K m k msA msB l xs) (g : w.grownBy w' none) : QPL w0 w' B R K m k msA msB l xs := by
  obtain ⟨f, c, v, rv, V, U, N, h, hL, hd⟩ := h; exact ⟨f, c, v, rv, V, U, N, h.keep g, hL.keep g, hd⟩
/-- Back from blocks that are all new. -/
theorem grown_new {S : Nat → Prop} (h : w0.grownBy w none) (g : Fr S w w') (hs : ∀ b, S b → w0.heap.size ≤ b) : w0.grownBy w' none := BkWord.grown_fr h g hs
theorem QP.que (h : QP w0 w B R K m k msA msB) : Pl w B msA := by obtain ⟨f, c, v, rv, V, U, N, h⟩ := h; exact h.que
/-- The queue's step. -/
theorem QP.obj (h : QP w0 w B R K m k msA msB) (g : w.grownBy w' (some B)) (hq : Pl w' B ms') : QP w0 w' B R K m k ms' msB := by
  obtain ⟨f, c, v, rv, V, U, N, h⟩ := h
  have fg : Fr (fun b => b = B) w w' := Fr.of_grown g (fun k e _ => by cases e; rfl)
  exact ⟨f, c, v, rv, V, U, N, hq, h.ref.fr fg (fun b hb e => h.bB.1 (e ▸ hb)), h.bk.fr fg (fun b hb e => h.bB.2 (e ▸ hb)), h.bB, h.bQ, h.lo, grown_new h.g fg (fun b e => by rw [e]; exact h.lo.1)⟩
/-- The reference's step. -/
theorem QP.step {F : Nat} {args : Array Value} {E : Ending → Prop} (h : QP w0 w B R K m k msA msB) (hc : ∀ v, RefP.RQ w R m v msB → Calls Tryd.prog F args w fun e w' => E e ∧ RefP.Post w R m v ms' w') :
    Calls Tryd.prog F args w fun e w' => E e ∧ QP w0 w' B R K m k msA ms' := by
  obtain ⟨f, c, v, rv, V, U, N, h⟩ := h
  refine (hc v h.ref).mono ?_
  rintro e w' ⟨he, v', hR, hF, hat⟩
  refine ⟨he, f, c, v', rv, V, U, N, ?_⟩
  have hBl := h.que.arr.lt
  have hQ : ∀ b, RefP.OwnQ R v' b → RefP.OwnQ R v b ∨ w.heap.size ≤ b := by
    rintro b (e | e)
    · exact .inl (.inl e)
    · exact (hat b e).imp .inr id
  refine ⟨⟨h.que.arr.fr hF h.bB.1, h.que.n1, h.que.n64⟩, hR, h.bk.fr hF (fun b hb hq => h.bQ b hq hb), ⟨fun hq => ?_, h.bB.2⟩, fun b hb hk => ?_, ⟨h.lo.1, fun b hb => ?_⟩, grown_new h.g hF h.lo.2⟩
  · rcases hQ B hq with h1 | h1
    · exact h.bB.1 h1
    · omega
  · rcases hQ b hb with h1 | h1
    · exact h.bQ b h1 hk
    · have := h.bk.lt b hk; omega
  · rcases hQ b hb with h1 | h1
    · exact h.lo.2 b h1
    · exact Nat.le_trans h.g.size h1
/-- A list that was made. -/
theorem QP.list {l : Value} {xs : List Int} (h : QP w0 w B R K m k msA msB) (g : w.grownBy w' none) (hM : Mine w' w.heap.size 22 .u32 l xs) : QPL w0 w' B R K m k msA msB l xs := by
  obtain ⟨f, c, v, rv, V, U, N, h⟩ := h
  refine ⟨f, c, v, rv, V, U, N, h.keep g, Lg.of_mine hM, fun b hb => ?_⟩
  have hlt := (World.ownsRow.lt hM b hb).1
  have hBl := h.que.arr.lt
  refine ⟨Nat.le_trans h.g.size hlt, by omega, fun hq => ?_, fun hk => ?_⟩
  · have := h.ref.lt b hq; omega
  · have := h.bk.lt b hk; omega
/-- It is kept. -/
theorem QPL.words {l : Value} {xs : List Int} (h : QPL w0 w B R K m k msA msB l xs) (hk : k ≤ 999) (hx : xs.length ≤ 5000) :
    Calls Tryd.prog 26 #[.pointer (some ⟨K, 0, none⟩), l] w fun e w' => (∃ x, e = .returned x) ∧ QP w0 w' B R K m (k + 1) msA msB := by
  obtain ⟨f, c, v, rv, V, U, N, h, hL, hd⟩ := h
  refine (BkWord.ints_ok h.bk hk hL hx (fun i hi => ?_) (fun b hb hB => (hd b hb).2.2.2 (.inl hB)) (fun b hb => (hd b hb).1) h.g.size).mono ?_
  · rcases e : l.ownBlock with _ | b
    · exact .inl e
    · exact .inr fun e2 => (hd b e).2.2.2 (.inr ⟨i, hi, by rw [← e2, e]⟩)
  rintro e w' ⟨he, rv', hB', hF, hn⟩
  have hBl := h.que.arr.lt
  have hV : ∀ b, BkWord.OwnV (k + 1) (BkWord.up V k l) b → BkWord.OwnV k V b ∨ l.ownBlock = some b := by
    rintro b ⟨i, hi, e⟩
    by_cases hi2 : i = k
    · subst hi2; rw [BkWord.up_same] at e; exact .inr e
    · rw [BkWord.up_ne _ _ hi2] at e; exact .inl ⟨i, by omega, e⟩
  refine ⟨he, f, c, v, rv', _, _, _, ⟨h.que.arr.fr hF (fun hb => h.bB.2 (.inl hb)), h.que.n1, h.que.n64⟩, h.ref.fr hF (fun b hb hk2 => h.bQ b hb (.inl hk2)), hB', ⟨h.bB.1, ?_⟩, fun b hb => ?_, h.lo, grown_new h.g hF (fun b hb => h.bk.lo b (.inr hb))⟩
  · rintro (hb | hb)
    · rcases hn B hb with h1 | h1
      · exact h.bB.2 (.inl h1)
      · omega
    · rcases hV B hb with h1 | h1
      · exact h.bB.2 (.inr h1)
      · exact (hd B h1).2.1 rfl
  · rintro (hb2 | hb2)
    · rcases hn b hb2 with h1 | h1
      · exact h.bQ b hb (.inl h1)
      · have := h.ref.lt b hb; omega
    · rcases hV b hb2 with h1 | h1
      · exact h.bQ b hb (.inr h1)
      · exact (hd b h1).2.2.1 hb
theorem QP.apart (h : QP w0 w B R K m k msA msB) (hk : k ≤ 1000) : Calls Tryd.prog 14 #[.pointer (some ⟨K, 0, none⟩)] w fun e w' => e = .returned (.bool true) ∧ w0.grownBy w' none := by
  obtain ⟨f, c, v, rv, V, U, N, h⟩ := h
  exact (BkWord.apart_own h.bk hk).mono fun e w' ⟨he, hF⟩ => ⟨he, grown_new h.g hF (fun b hb => hb)⟩
/-- The steps, both alike. -/
theorem post_same {v : Value} {ms : List Int} (h : RefP.RQ w R m v ms) (g : w.grownBy w' none) : RefP.Post w R m v ms w' := ⟨v, h.keep g, Fr.of_grown g (by simp), fun b hb => .inl hb⟩
theorem grown_wide {r : Option Nat} (g : w.grownBy w' none) : w.grownBy w' r := ⟨g.os, g.tape, g.output, g.size, fun k hk _ => g.block k hk (by simp)⟩
theorem first_zero (os : List Int) : ∀ n, (∃ j, j < n ∧ gd os j = 0 ∧ ∀ i, i < j → gd os i ≠ 0) ∨ ∀ i, i < n → gd os i ≠ 0
  | 0 => .inr fun i hi => absurd hi (Nat.not_lt_zero _)
  | n + 1 => by
    rcases first_zero os n with ⟨j, h1, h2, h3⟩ | h
    · exact .inl ⟨j, by omega, h2, h3⟩
    · by_cases e : gd os n = 0
      · exact .inl ⟨n, by omega, e, h⟩
      · refine .inr fun i hi => ?_
        by_cases e2 : i = n
        · subst e2; exact e
        · exact h i (by omega)
theorem pair_alloc (x : Int) (os : List Int) : ∃ (y g : Int) (os' : List Int), (∀ w, Pl w B os → Calls Tryd.prog 57 #[.pointer (some ⟨B, 0, none⟩), .int .u32 x] w fun e w' => e = .returned (.tuple #[.int .i64 y, .int .i64 g]) ∧ Pl w' B os' ∧ w.grownBy w' (some B)) ∧
    (∀ w v, RefP.RQ w R m v os → Calls Tryd.prog 58 #[.pointer (some ⟨R, 0, none⟩), .int .u32 x] w fun e w' => e = .returned (.tuple #[.int .i64 y, .int .i64 g]) ∧ RefP.Post w R m v os' w') := by
  by_cases hx : x = 0
  · subst hx
    exact ⟨0, 1, os, fun w h => (alloc_zero w h).mono fun e w' ⟨he, hw⟩ => ⟨he, hw ▸ h, hw ▸ grown_refl _ _⟩, fun w v h => RefP.alloc_zero h⟩
  · rcases first_zero os os.length with ⟨j, hs1, hs2, hmin⟩ | hno
    · have hsp : j < os.length ∧ gd os j = 0 := ⟨hs1, hs2⟩
      refine ⟨j, 0, os.set j x, fun w h => (alloc_any x hx w h).mono ?_, fun w v h => RefP.alloc_ok x hx h j hsp.1 hsp.2 hmin⟩
      rintro e w' (⟨j', rfl, q1, q2, q3, q4, q5⟩ | ⟨-, q, -⟩)
      · have : j' = j := by
          rcases Nat.lt_trichotomy j' j with h1 | h1 | h1
          · exact absurd q2 (hmin j' h1)
          · exact h1
          · exact absurd hsp.2 (q3 j h1)
        subst this
        exact ⟨rfl, q4, q5⟩
      · exact absurd hsp.2 (q j hsp.1)
    · refine ⟨0, 11, os, fun w h => (alloc_any x hx w h).mono ?_, fun w v h => RefP.alloc_full x hx h hno⟩
      rintro e w' (⟨j', -, q1, q2, -⟩ | ⟨rfl, -, n, rfl⟩)
      · exact absurd q2 (hno j' q1)
      · exact ⟨rfl, h.drewN n, grown_drewN (grown_refl _ _) n⟩
theorem pair_free (x b : Int) (os : List Int) : ∃ (g : Int) (os' : List Int), (∀ w, Pl w B os → Calls Tryd.prog 59 #[.pointer (some ⟨B, 0, none⟩), .int .u32 x, .int .i64 b] w fun e w' => e = .returned (.int .i64 g) ∧ Pl w' B os' ∧ w.grownBy w' (some B)) ∧
    (∀ w v, RefP.RQ w R m v os → Calls Tryd.prog 60 #[.pointer (some ⟨R, 0, none⟩), .int .u32 x, .int .i64 b] w fun e w' => e = .returned (.int .i64 g) ∧ RefP.Post w R m v os' w') := by
  by_cases hb : x = 0 ∨ b < 0 ∨ (os.length : Int) ≤ b
  · exact ⟨1, os, fun w h => (free_arg x b hb w h).mono fun e w' ⟨he, hw⟩ => ⟨he, hw ▸ h, hw ▸ grown_refl _ _⟩, fun w v h => RefP.free_arg x b hb h⟩
  · obtain ⟨j, rfl⟩ := Int.eq_ofNat_of_zero_le (by omega : 0 ≤ b)
    have hx : x ≠ 0 := fun e => hb (.inl e)
    have hj : j < os.length := by omega
    by_cases hw : gd os j = x
    · exact ⟨0, os.set j 0, fun w h => free_ok x hx j hj hw w h, fun w v h => RefP.free_ok x hx j hj hw h⟩
    · exact ⟨13, os, fun w h => (free_owner x hx j hj hw w h).mono fun e w' ⟨he, hw⟩ => ⟨he, hw ▸ h, hw ▸ grown_refl _ _⟩, fun w v h => RefP.free_owner x hx j hj hw h⟩
theorem pair_all (x : Int) (os : List Int) (h1 : 1 ≤ os.length) : ∃ (g : Int) (os' : List Int), (∀ w, Pl w B os → Calls Tryd.prog 61 #[.pointer (some ⟨B, 0, none⟩), .int .u32 x] w fun e w' => e = .returned (.int .i64 g) ∧ Pl w' B os' ∧ w.grownBy w' (some B)) ∧
    (∀ w v, RefP.RQ w R m v os → Calls Tryd.prog 62 #[.pointer (some ⟨R, 0, none⟩), .int .u32 x] w fun e w' => e = .returned (.int .i64 g) ∧ RefP.Post w R m v os' w') := by
  by_cases hx : x = 0
  · subst hx
    exact ⟨0, os, fun w h => (all_zero _ w).mono fun e w' ⟨he, hg⟩ => ⟨he, h.keep hg, grown_wide hg⟩, fun w v h => RefP.all_zero h h1⟩
  · exact ⟨_, _, fun w h => all_blocks x hx w h, fun w v h => RefP.all_ok x hx h⟩
end Go.Proofs.YtabkkeeedlnmnaaDoor
