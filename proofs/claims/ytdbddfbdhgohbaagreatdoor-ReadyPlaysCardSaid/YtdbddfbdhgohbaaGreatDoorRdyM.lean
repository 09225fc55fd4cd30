/- Ready, in plain words: who stands in which rank, which ranks have somebody. -/
import Derived.Test.YtdbddfbdhgohbaaGreatDoorBase
import Derived.Test.YtdbddfbdhgohbaaGreatDoorLadM
import Derived.Test.YtdbddfbdhgohbaaGreatDoorHeiM
namespace Tk.Rdy
open Tk Tk.Lad
set_option linter.unusedVariables false
set_option linter.unusedSimpArgs false

theorem nodup_len {l : List Int} {N : Nat} (hn : l.Nodup) (hb : ∀ x ∈ l, 0 ≤ x ∧ x < N) : l.length ≤ N := by
  refine Classical.byContradiction fun h => ?_
  obtain ⟨i, j, h1, h2, h3⟩ := Tk.Hei.pigeon N (fun i => (gd l i).toNat) (fun i hi => by
    have := hb _ (gd_mem (xs := l) (i := i) (by omega)); (try dsimp only); omega)
  have hi : i < l.length := by omega
  have hj : j < l.length := by omega
  have a := hb _ (gd_mem hi); have b := hb _ (gd_mem hj)
  try dsimp only at h3
  have h4 : gd l i = gd l j := by omega
  rw [gd_lt hi, gd_lt hj] at h4
  have := (List.getElem_inj hn).1 h4
  omega
def upd {α : Type} (f : Nat → α) (k : Nat) (v : α) (i : Nat) : α := if i = k then v else f i
theorem upd_same {α : Type} (f : Nat → α) (k : Nat) (v : α) : upd f k v k = v := if_pos rfl
theorem upd_ne {α : Type} (f : Nat → α) {k i : Nat} (v : α) (h : i ≠ k) : upd f k v i = f i := if_neg h
structure Ok (ls : Nat → List Int) (rk : Nat → Nat) (has : Nat) : Prop where
  nd : ∀ r, r < 32 → (ls r).Nodup
  mem : ∀ r, r < 32 → ∀ x ∈ ls r, ∃ u : Nat, x = u ∧ u < 256 ∧ rk u = r + 1
  to : ∀ u, u < 256 → rk u ≠ 0 → rk u ≤ 32 ∧ (u : Int) ∈ ls (rk u - 1)
  lt : has < 4294967296
  bit : ∀ r, r < 32 → (has.testBit r = true ↔ ls r ≠ [])
variable {ls : Nat → List Int} {rk : Nat → Nat} {has : Nat}
theorem Ok.len (h : Ok ls rk has) {r : Nat} (hr : r < 32) : (ls r).length ≤ 256 :=
  nodup_len (h.nd r hr) fun x hx => by obtain ⟨u, rfl, hu, -⟩ := h.mem r hr x hx; omega
/-- Who is not there may come. -/
theorem Ok.not_in (h : Ok ls rk has) {r u : Nat} (hr : r < 32) (hk : rk u = 0) : (u : Int) ∉ ls r := fun hm => by
  obtain ⟨v, e, -, e2⟩ := h.mem r hr _ hm
  obtain rfl : u = v := by omega
  omega
theorem Ok.fits (h : Ok ls rk has) {r u : Nat} (hr : r < 32) (hu : u < 256) (hk : rk u = 0) : (ls r).length < 256 := by
  have hni := h.not_in hr hk
  have := nodup_len (l := (u : Int) :: ls r) (N := 256) (List.nodup_cons.2 ⟨hni, h.nd r hr⟩) (fun x hx => by
    rcases List.mem_cons.1 hx with rfl | hx
    · omega
    · obtain ⟨v, rfl, hv, -⟩ := h.mem r hr x hx; omega)
  simp at this; omega
theorem bit_set (l : Nat) {r i : Nat} (hr : r < 32) : (setN l r).testBit i = (l.testBit i || decide (i = r)) := by
  rw [testBit_set]
  congr 1
  have : (0 : Int) ≤ r ∧ (r : Int) ≤ 31 := by omega
  simp [this]
theorem bit_clr (l : Nat) {r i : Nat} (hr : r < 32) : (clrN l r).testBit i = (l.testBit i && !decide (i = r)) := by
  rw [testBit_clr]
  congr 1
  have : (0 : Int) ≤ r ∧ (r : Int) ≤ 31 := by omega
  simp [this]
/-- Somebody comes, at either end. -/
theorem Ok.come (h : Ok ls rk has) {r u : Nat} (hr : r < 32) (hu : u < 256) (hk : rk u = 0) {l' : List Int} (hp : l'.Perm ((u : Int) :: ls r)) : Ok (upd ls r l') (upd rk u (r + 1)) (setN has r) := by
  have hni := h.not_in hr hk
  refine ⟨fun s hs => ?_, fun s hs x hx => ?_, fun v hv hne => ?_, set_lt h.lt _, fun s hs => ?_⟩
  · by_cases e : s = r
    · subst e; rw [upd_same, hp.nodup_iff]; exact List.nodup_cons.2 ⟨hni, h.nd s hs⟩
    · rw [upd_ne _ _ e]; exact h.nd s hs
  · by_cases e : s = r
    · subst e; rw [upd_same, hp.mem_iff, List.mem_cons] at hx
      rcases hx with rfl | hx
      · exact ⟨u, rfl, hu, upd_same _ _ _⟩
      · obtain ⟨v, rfl, hv, e2⟩ := h.mem s hs x hx
        have hvu : v ≠ u := fun e => by subst e; omega
        exact ⟨v, rfl, hv, by rw [upd_ne _ _ hvu]; exact e2⟩
    · rw [upd_ne _ _ e] at hx
      obtain ⟨v, rfl, hv, e2⟩ := h.mem s hs x hx
      have hvu : v ≠ u := fun e => by subst e; omega
      exact ⟨v, rfl, hv, by rw [upd_ne _ _ hvu]; exact e2⟩
  · by_cases e : v = u
    · subst e; rw [upd_same] at hne ⊢
      refine ⟨by omega, ?_⟩
      rw [Nat.add_sub_cancel, upd_same, hp.mem_iff]; exact List.mem_cons_self
    · rw [upd_ne _ _ e] at hne ⊢
      obtain ⟨h1, h2⟩ := h.to v hv hne
      refine ⟨h1, ?_⟩
      by_cases e2 : rk v - 1 = r
      · rw [e2, upd_same, hp.mem_iff]; rw [e2] at h2; exact List.mem_cons_of_mem _ h2
      · rw [upd_ne _ _ e2]; exact h2
  · rw [bit_set _ hr, Bool.or_eq_true, decide_eq_true_eq, h.bit s hs]
    by_cases e : s = r
    · subst e; rw [upd_same]
      exact ⟨fun _ e => by have := hp.length_eq; rw [e] at this; simp at this, fun _ => .inr rfl⟩
    · rw [upd_ne _ _ e]
      exact ⟨fun h => h.resolve_right e, .inl⟩
/-- Somebody goes. -/
theorem Ok.go (h : Ok ls rk has) {r u : Nat} (hr : r < 32) (hu : u < 256) (hk : rk u = r + 1) {l' : List Int} (hp : ((u : Int) :: l').Perm (ls r)) :
    Ok (upd ls r l') (upd rk u 0) (if l' = [] then clrN has r else has) := by
  have hnd : ((u : Int) :: l').Nodup := hp.nodup_iff.2 (h.nd r hr)
  rw [List.nodup_cons] at hnd
  refine ⟨fun s hs => ?_, fun s hs x hx => ?_, fun v hv hne => ?_, ?_, fun s hs => ?_⟩
  · by_cases e : s = r
    · subst e; rw [upd_same]; exact hnd.2
    · rw [upd_ne _ _ e]; exact h.nd s hs
  · by_cases e : s = r
    · subst e; rw [upd_same] at hx
      obtain ⟨v, rfl, hv, e2⟩ := h.mem s hs x (hp.mem_iff.1 (List.mem_cons_of_mem _ hx))
      have hvu : v ≠ u := fun e => by subst e; exact hnd.1 hx
      exact ⟨v, rfl, hv, by rw [upd_ne _ _ hvu]; exact e2⟩
    · rw [upd_ne _ _ e] at hx
      obtain ⟨v, rfl, hv, e2⟩ := h.mem s hs x hx
      have hvu : v ≠ u := fun e3 => by subst e3; omega
      exact ⟨v, rfl, hv, by rw [upd_ne _ _ hvu]; exact e2⟩
  · by_cases e : v = u
    · subst e; rw [upd_same] at hne; exact absurd rfl hne
    · rw [upd_ne _ _ e] at hne ⊢
      obtain ⟨h1, h2⟩ := h.to v hv hne
      refine ⟨h1, ?_⟩
      by_cases e2 : rk v - 1 = r
      · rw [e2, upd_same]; rw [e2] at h2
        have := hp.mem_iff.2 h2
        rcases List.mem_cons.1 this with h3 | h3
        · omega
        · exact h3
      · rw [upd_ne _ _ e2]; exact h2
  · split
    · exact clr_lt h.lt _
    · exact h.lt
  · by_cases hl : l' = []
    · rw [if_pos hl, bit_clr _ hr, Bool.and_eq_true, h.bit s hs]
      by_cases e : s = r
      · subst e; rw [upd_same]; simp [hl]
      · rw [upd_ne _ _ e]; simp [e]
    · rw [if_neg hl, h.bit s hs]
      by_cases e : s = r
      · subst e; rw [upd_same]
        exact ⟨fun _ => hl, fun _ e => by have := hp.length_eq; rw [e] at this; simp at this⟩
      · rw [upd_ne _ _ e]
/-- A rank turns. -/
theorem Ok.turn (h : Ok ls rk has) {r : Nat} (hr : r < 32) {l' : List Int} (hp : l'.Perm (ls r)) : Ok (upd ls r l') rk has := by
  refine ⟨fun s hs => ?_, fun s hs x hx => ?_, fun v hv hne => ?_, h.lt, fun s hs => ?_⟩
  · by_cases e : s = r
    · subst e; rw [upd_same, hp.nodup_iff]; exact h.nd s hs
    · rw [upd_ne _ _ e]; exact h.nd s hs
  · by_cases e : s = r
    · subst e; rw [upd_same, hp.mem_iff] at hx; exact h.mem s hs x hx
    · rw [upd_ne _ _ e] at hx; exact h.mem s hs x hx
  · obtain ⟨h1, h2⟩ := h.to v hv hne
    refine ⟨h1, ?_⟩
    by_cases e2 : rk v - 1 = r
    · rw [e2, upd_same, hp.mem_iff]; rw [e2] at h2; exact h2
    · rw [upd_ne _ _ e2]; exact h2
  · rw [h.bit s hs]
    by_cases e : s = r
    · subst e; rw [upd_same]
      exact ⟨fun h e => h (by have := hp.length_eq; rw [e] at this; exact List.length_eq_zero_iff.1 this.symm), fun h e => h (by have := hp.length_eq; rw [e] at this; exact List.length_eq_zero_iff.1 this)⟩
    · rw [upd_ne _ _ e]
theorem Ok.start : Ok (fun _ => []) (fun _ => 0) 0 :=
  ⟨fun _ _ => List.nodup_nil, fun _ _ x hx => by simp at hx, fun _ _ h => absurd rfl h, by decide, fun r _ => by simp⟩
end Tk.Rdy
