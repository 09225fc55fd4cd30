/- The book: a list of ints that was made ahead of the book is kept. -/
import Derived.Test.YtneamjaglgnmkaaGreatDoorBkW7
namespace Go.Proofs.YtneamjaglgnmkaaGreatDoor
open Go.RowKit Go.Shelf Tk
set_option linter.unusedVariables false
set_option linter.unusedSimpArgs false
namespace BkWord
variable {w w' : World} {base K : Nat} {rv : Value} {q : Nat} {V U : Nat → Value} {N : Nat → Nat}
/-- A list made ahead of block K, from lo on and below hi. -/
structure Wl (w : World) (lo hi : Nat) (v : Value) (xs : List Int) : Prop where
  lg : Lg w 23 .u32 v xs
  at_ : ∀ b, v.ownBlock = some b → lo ≤ b ∧ b < hi
theorem Wl.fr {lo hi : Nat} {v : Value} {xs : List Int} (h : Wl w lo hi v xs) (g : Fr (fun k => K ≤ k) w w') (hK : hi ≤ K) : Wl w' lo hi v xs :=
  ⟨h.lg.fr g (fun b hb hk => by have := (h.at_ b hb).2; omega), h.at_⟩
theorem Wl.keep {lo hi : Nat} {v : Value} {xs : List Int} (h : Wl w lo hi v xs) (g : w.grownBy w' none) : Wl w' lo hi v xs := ⟨h.lg.keep g, h.at_⟩
theorem Wl.apart {lo hi lo' hi' : Nat} {v u : Value} {xs ys : List Int} (h : Wl w lo hi v xs) (k : Wl w' lo' hi' u ys) (hh : hi' ≤ lo) : Apart v u := by
  rcases e : v.ownBlock with _ | b
  · exact .inl e
  · right
    intro e2
    have h1 := (h.at_ b e).1
    have h2 := (k.at_ b (by rw [← e2, e])).2
    omega
/-- A book that was made at K. -/
structure BkU (base : Nat) (w : World) (K : Nat) (rv : Value) (q : Nat) (V U : Nat → Value) (N : Nat → Nat) : Prop extends BkL base w K rv q V U N where
  up : ∀ k, OwnB K rv k → K ≤ k
theorem BkU.made (w : World) (T : TypeId) (hb : base ≤ w.heap.size) : BkU base (w.alloc (.cells #[.int .i64 0, .slice none 0 0, .slice none 0 0, .slice none 0 0, .slice none 0 0, .slice none 0 0, .slice none 0 0, .slice none 0 0, .slice none 0 0] T)) w.heap.size (.slice none 0 0) 0 (fun _ => .slice none 0 0) (fun _ => .slice none 0 0) (fun _ => 0) :=
  ⟨BkL.made w _ T rfl (fun i hi => by
    rcases (by omega : i = 0 ∨ i = 1 ∨ i = 2 ∨ i = 3 ∨ i = 4 ∨ i = 5 ∨ i = 6 ∨ i = 7 ∨ i = 8) with rfl | rfl | rfl | rfl | rfl | rfl | rfl | rfl | rfl <;> rfl) hb _ _ _, by
    rintro k (rfl | e)
    · exact Nat.le_refl _
    · cases e⟩
theorem ints2_ok (h : BkU base w K rv q V U N) (hq : q ≤ 999) {lo hi : Nat} {v : Value} {xs : List Int} (hv : Wl w lo hi v xs) (hn : xs.length ≤ 5000) (hap : ∀ i, i < q → Apart v (V i)) (hlo : base ≤ lo) (hhi : hi ≤ K) :
    Calls Tryz.prog 27 #[.pointer (some ⟨K, 0, none⟩), v] w fun e w' => (∃ x, e = .returned x) ∧
      ∃ rv', BkU base w' K rv' (q + 1) (up V q v) (up U q (.slice none 0 0)) (upN N q xs.length) ∧ Fr (fun k => K ≤ k) w w' := by
  have hKl := h.bk.hdr.lt
  have hbK : base ≤ K := h.lo K (.inr (.inl rfl))
  refine (ints_ok h.toBkL hq hv.lg hn hap (fun b hb hB => by have := (hv.at_ b hb).2; have := h.up b hB; omega) (fun b hb => Nat.le_trans hlo (hv.at_ b hb).1) (by omega)).mono ?_
  rintro e w' ⟨he, rv', hB, hf, hn'⟩
  refine ⟨he, rv', ⟨hB, fun k hk => ?_⟩, hf.mono fun k _ hk => h.up k hk⟩
  rcases hn' k hk with h1 | h1
  · exact h.up k h1
  · omega
end BkWord
end Go.Proofs.YtneamjaglgnmkaaGreatDoor
