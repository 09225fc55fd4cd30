/- The book: lists of ints of the call's own are kept, and found apart. -/
import Derived.Test.YtneamjaglgnmkaaGreatDoorBkW6
namespace Go.Proofs.YtneamjaglgnmkaaGreatDoor
open Go.RowKit Go.Shelf Tk
set_option linter.unusedVariables false
set_option linter.unusedSimpArgs false
namespace BkWord
variable {w w' : World} {base K : Nat} {rv : Value} {q : Nat} {V U : Nat → Value} {N : Nat → Nat}
/-- A book of lists that lie apart, all from base on. -/
structure BkL (base : Nat) (w : World) (K : Nat) (rv : Value) (q : Nat) (V U : Nat → Value) (N : Nat → Nat) : Prop where
  bk : Bk w K rv q V U
  ls : ∀ i, i < q → ∃ xs, xs.length = N i ∧ Lg w 23 .u32 (V i) xs
  us : ∀ i, i < q → ∃ A n c, U i = .slice A n c
  ap : ∀ i j, i < q → j < q → i ≠ j → Apart (V i) (V j)
  sep : ∀ b, OwnV q V b → ¬ OwnB K rv b
  lo : ∀ b, OwnV q V b ∨ OwnB K rv b → base ≤ b
  len : ∀ i, i < q → N i ≤ 5000
def upN (f : Nat → Nat) (k : Nat) (v : Nat) (i : Nat) : Nat := if i = k then v else f i
theorem BkL.made (w : World) (cs : Array Value) (T : TypeId) (hs : cs.size = 9) (hc : ∀ i, i < 9 → cs[i]? = some (bv 0 (.slice none 0 0) i)) (hb : base ≤ w.heap.size) (V U : Nat → Value) (N : Nat → Nat) : BkL base (w.alloc (.cells cs T)) w.heap.size (.slice none 0 0) 0 V U N :=
  ⟨Bk.made w cs T hs hc V U, fun i hi => absurd hi (Nat.not_lt_zero _), fun i hi => absurd hi (Nat.not_lt_zero _), fun i _ hi => absurd hi (Nat.not_lt_zero _), by rintro b ⟨i, hi, _⟩; exact absurd hi (Nat.not_lt_zero _),
    (by
      rintro b (⟨i, hi, _⟩ | (rfl | e))
      · exact absurd hi (Nat.not_lt_zero _)
      · exact hb
      · cases e),
    fun i hi => absurd hi (Nat.not_lt_zero _)⟩
theorem BkL.keep (h : BkL base w K rv q V U N) (g : w.grownBy w' none) : BkL base w' K rv q V U N :=
  ⟨h.bk.keep g, fun i hi => by obtain ⟨xs, hl, hL⟩ := h.ls i hi; exact ⟨xs, hl, hL.keep g⟩, h.us, h.ap, h.sep, h.lo, h.len⟩
set_option maxRecDepth 100000 in
theorem ints_ok (h : BkL base w K rv q V U N) (hq : q ≤ 999) {v : Value} {xs : List Int} (hv : Lg w 23 .u32 v xs) (hn : xs.length ≤ 5000) (hap : ∀ i, i < q → Apart v (V i)) (hs : ∀ b, v.ownBlock = some b → ¬ OwnB K rv b) (hlo : ∀ b, v.ownBlock = some b → base ≤ b) (hb : base ≤ w.heap.size) :
    Calls Tryz.prog 27 #[.pointer (some ⟨K, 0, none⟩), v] w fun e w' => (∃ x, e = .returned x) ∧
      ∃ rv', BkL base w' K rv' (q + 1) (up V q v) (up U q (.slice none 0 0)) (upN N q xs.length) ∧ Fr (OwnB K rv) w w' ∧ (∀ k, OwnB K rv' k → OwnB K rv k ∨ w.heap.size ≤ k) := by
  obtain ⟨A, c, rfl, hnc, -⟩ := hv.sl
  have hk := Lib.hid (keep_ok h.bk (by omega) A xs.length c)
  obtain ⟨n, hne⟩ : ∃ n, xs.length = n := ⟨_, rfl⟩
  rw [hne] at hk hv hap hs hlo ⊢
  replace h := Lib.hid h
  replace hap := Lib.hid hap
  replace hs := Lib.hid hs
  replace hlo := Lib.hid hlo
  rw [hne] at hn hnc
  replace hne := Lib.hid hne
  go_enter Tryz.func27, Tryz.ntmps27
  go_wp2_with (first | (go_at_call 63; refine hk.out.mono ?_; rintro e w1 ⟨⟨x, rfl⟩, hB1⟩; replace hB1 := Lib.hid hB1))
  refine bodyPost_end (results_none rfl _ _ _) rfl ?_
  refine ⟨⟨_, rfl⟩, ?_⟩
  obtain ⟨g, cap, hB, hat, hfr⟩ := hB1.out
  have hnew : ∀ k, OwnB K (.slice (some ⟨g, 0, none⟩) (q + 1) cap) k → OwnB K rv k ∨ w.heap.size ≤ k := by
    rintro k (rfl | e)
    · exact .inl (.inl rfl)
    · cases e
      rcases hat with h | h
      · exact .inl (.inr h)
      · exact .inr h
  have hvl := hv.lt
  have hown : ∀ b, OwnV (q + 1) (up V q (.slice A n c)) b → OwnV q V b ∨ (Value.slice A n c).ownBlock = some b := by
    rintro b ⟨i, hi, e⟩
    by_cases hi2 : i = q
    · subst hi2; rw [up_same] at e; exact .inr e
    · rw [up_ne _ _ hi2] at e; exact .inl ⟨i, by omega, e⟩
  have hOlt : ∀ b, OwnV q V b → b < w.heap.size := by
    rintro b ⟨i, hi, e⟩
    obtain ⟨ys, -, hL⟩ := h.out.ls i hi
    exact hL.lt b e
  refine ⟨_, ⟨hB, fun i hi => ?_, fun i hi => ?_, fun i j hi hj hne => ?_, fun b hb2 => ?_, fun b hb2 => ?_, fun i hi => ?_⟩, hfr, hnew⟩
  · by_cases e : i = q
    · subst e
      exact ⟨xs, by unfold upN; rw [if_pos rfl]; exact hne.out, by rw [up_same]; exact hv.fr hfr hs.out⟩
    · obtain ⟨ys, hl, hL⟩ := h.out.ls i (by omega)
      exact ⟨ys, by unfold upN; rw [if_neg e]; exact hl, by rw [up_ne _ _ e]; exact hL.fr hfr (fun b hb => h.out.sep b ⟨i, by omega, hb⟩)⟩
  · by_cases e : i = q
    · subst e; rw [up_same]; exact ⟨_, _, _, rfl⟩
    · rw [up_ne _ _ e]; exact h.out.us i (by omega)
  · by_cases e : i = q
    · subst e
      rw [up_same, up_ne _ _ (fun e => hne e.symm)]
      exact hap.out j (by omega)
    · by_cases e2 : j = q
      · subst e2
        rw [up_same, up_ne _ _ e]
        exact (hap.out i (by omega)).symm
      · rw [up_ne _ _ e, up_ne _ _ e2]
        exact h.out.ap i j (by omega) (by omega) hne
  · intro hB2
    rcases hown b hb2 with ho | ho
    · rcases hnew b hB2 with h1 | h1
      · exact h.out.sep b ho h1
      · have := hOlt b ho; omega
    · rcases hnew b hB2 with h1 | h1
      · exact hs.out b ho h1
      · have := hvl b ho; omega
  · rcases hb2 with hb2 | hb2
    · rcases hown b hb2 with ho | ho
      · exact h.out.lo b (.inl ho)
      · exact hlo.out b ho
    · rcases hnew b hb2 with h1 | h1
      · exact h.out.lo b (.inr h1)
      · omega
  · unfold upN
    by_cases e : i = q
    · rw [if_pos e]; exact hn
    · rw [if_neg e]; exact h.out.len i (by omega)
theorem apart_own (h : BkL base w K rv q V U N) (hq : q ≤ 1000) :
    Calls Tryz.prog 15 #[.pointer (some ⟨K, 0, none⟩)] w fun e w' => e = .returned (.bool true) ∧ Fr (fun b => base ≤ b) w w' :=
  (apart_ok h.bk hq h.len h.ls h.us h.ap h.sep).mono fun e w' ⟨he, hf⟩ => ⟨he, hf.mono fun k _ hk => h.lo k (hk.imp id .inr)⟩
/-- Back at the start. -/
theorem grown_fr {a w w' : World} {S : Nat → Prop} (h : a.grownBy w none) (g : Fr S w w') (hs : ∀ k, S k → a.heap.size ≤ k) : a.grownBy w' none :=
  ((Fr.of_grown (S := fun k => a.heap.size ≤ k) h (by simp)).trans (g.mono fun k _ => hs k)).grown (fun k hk h => absurd h (by omega))
end BkWord
end Go.Proofs.YtneamjaglgnmkaaGreatDoor
