/- timekeeperref18: what may be asked, what may be made; how it is made. -/
import Derived.Test.YtneamjaglgnmkaaGreatDoorObRef
import Derived.Test.YtneamjaglgnmkaaGreatDoorObA3
namespace Go.Proofs.YtneamjaglgnmkaaGreatDoor
open Go.RowKit Go.Shelf Tk Tk.Msk
set_option linter.unusedVariables false
set_option linter.unusedSimpArgs false
namespace RefO
theorem fit_eq (c : Int) (k : Nat) (j : Nat) (hk : 1 ≤ k ∧ k ≤ 6) (h : ∀ k, 1 ≤ k → k ≤ 6 → (c ∈ fitL k ↔ k = j)) : decide (c ∈ fitL k) = ((k : Int) == (j : Int)) := by
  have := h k hk.1 hk.2
  by_cases e : k = j
  · subst e
    rw [decide_eq_true (this.2 rfl)]; simp
  · rw [decide_eq_false (fun h => e (this.1 h))]
    symm; rw [beq_eq_false_iff_ne]; omega
theorem all6 {p : Nat → Prop} (h1 : p 1) (h2 : p 2) (h3 : p 3) (h4 : p 4) (h5 : p 5) (h6 : p 6) : ∀ k, 1 ≤ k → k ≤ 6 → p k := by
  intro k a b
  rcases (by omega : k = 1 ∨ k = 2 ∨ k = 3 ∨ k = 4 ∨ k = 5 ∨ k = 6) with rfl | rfl | rfl | rfl | rfl | rfl
  · exact h1
  · exact h2
  · exact h3
  · exact h4
  · exact h5
  · exact h6
set_option maxRecDepth 100000 in
set_option maxHeartbeats 4000000 in
theorem rfits_ok (c hh v m t : Int) (k : Nat) (hk : 1 ≤ k ∧ k ≤ 6) (w : World) :
    Calls Tryz.prog 21 #[askV c hh v m t, .int .u8 k] w fun e w' => e = .returned (.bool (decide (c ∈ fitL k))) ∧ w.grownBy w' none := by
  have hG := Lib.hid (fun A => World.grownBy_alloc w A none)
  by_cases hc : 3 ≤ c ∧ c ≤ 17
  · rcases (by omega : c = 3 ∨ c = 4 ∨ c = 5 ∨ c = 6 ∨ c = 7 ∨ c = 8 ∨ c = 9 ∨ c = 10 ∨ c = 11 ∨ c = 12 ∨ c = 13 ∨ c = 14 ∨ c = 15 ∨ c = 16 ∨ c = 17) with rfl | rfl | rfl | rfl | rfl | rfl | rfl | rfl | rfl | rfl | rfl | rfl | rfl | rfl | rfl
    iterate 2 (
      rw [fit_eq _ k 1 hk (all6 (by decide) (by decide) (by decide) (by decide) (by decide) (by decide))]; clear hc hk; unfold askV
      go_enter Tryz.func21, Tryz.ntmps21
      go_wp2_with fail
      go_ret
      exact ⟨rfl, hG.out _⟩)
    iterate 2 (
      rw [fit_eq _ k 2 hk (all6 (by decide) (by decide) (by decide) (by decide) (by decide) (by decide))]; clear hc hk; unfold askV
      go_enter Tryz.func21, Tryz.ntmps21
      go_wp2_with fail
      go_ret
      exact ⟨rfl, hG.out _⟩)
    iterate 4 (
      rw [fit_eq _ k 3 hk (all6 (by decide) (by decide) (by decide) (by decide) (by decide) (by decide))]; clear hc hk; unfold askV
      go_enter Tryz.func21, Tryz.ntmps21
      go_wp2_with fail
      go_ret
      exact ⟨rfl, hG.out _⟩)
    iterate 3 (
      rw [fit_eq _ k 4 hk (all6 (by decide) (by decide) (by decide) (by decide) (by decide) (by decide))]; clear hc hk; unfold askV
      go_enter Tryz.func21, Tryz.ntmps21
      go_wp2_with fail
      go_ret
      exact ⟨rfl, hG.out _⟩)
    iterate 2 (
      rw [fit_eq _ k 5 hk (all6 (by decide) (by decide) (by decide) (by decide) (by decide) (by decide))]; clear hc hk; unfold askV
      go_enter Tryz.func21, Tryz.ntmps21
      go_wp2_with fail
      go_ret
      exact ⟨rfl, hG.out _⟩)
    iterate 2 (
      rw [fit_eq _ k 6 hk (all6 (by decide) (by decide) (by decide) (by decide) (by decide) (by decide))]; clear hc hk; unfold askV
      go_enter Tryz.func21, Tryz.ntmps21
      go_wp2_with fail
      go_ret
      exact ⟨rfl, hG.out _⟩)
  · have hno : decide (c ∈ fitL k) = false := by
      apply decide_eq_false
      intro h
      apply hc
      revert h
      revert k
      intro k hk
      refine all6 (p := fun k => c ∈ fitL k → 3 ≤ c ∧ c ≤ 17) ?_ ?_ ?_ ?_ ?_ ?_ k hk.1 hk.2 <;> (simp [fitL]; omega)
    rw [hno]
    have e3 : (c == 3) = false ∧ (c == 4) = false ∧ (c == 5) = false ∧ (c == 6) = false ∧ (c == 7) = false ∧ (c == 8) = false ∧ (c == 9) = false ∧ (c == 10) = false ∧ (c == 11) = false ∧ (c == 12) = false ∧ (c == 13) = false ∧ (c == 14) = false ∧ (c == 15) = false ∧ (c == 16) = false ∧ (c == 17) = false := by
      simp only [beq_eq_false_iff_ne, ne_eq]; omega
    obtain ⟨e3, e4, e5, e6, e7, e8, e9, e10, e11, e12, e13, e14, e15, e16, e17⟩ := e3
    clear hc hk hno
    unfold askV
    go_enter Tryz.func21, Tryz.ntmps21
    go_wp2_with fail
    go_ret
    exact ⟨rfl, hG.out _⟩
set_option maxRecDepth 100000 in
set_option maxHeartbeats 4000000 in
theorem may_yes (k a b : Int) (h : MayP k a b) (w : World) : Calls Tryz.prog 18 #[.agg #[.int .u8 k, .int .u32 a, .int .u32 b]] w fun e w' => e = .returned (.bool true) ∧ w.grownBy w' none := by
  rcases h with ⟨rfl, h1, h2, h3⟩ | ⟨rfl, rfl, rfl⟩ | ⟨rfl, h1, h2, rfl⟩ | ⟨rfl, rfl⟩ | ⟨rfl, h1, h2, h3, h4⟩ | ⟨rfl, h1⟩
  all_goals
    go_enter Tryz.func18, Tryz.ntmps18
    go_wp2_with fail
    go_ret
    first | exact ⟨rfl, World.grownBy_alloc _ _ _⟩ | exact ⟨by simp [h1], World.grownBy_alloc _ _ _⟩
set_option maxRecDepth 100000 in
set_option maxHeartbeats 4000000 in
theorem may_not (k a b : Int) (h : ¬ MayP k a b) (w : World) : Calls Tryz.prog 18 #[.agg #[.int .u8 k, .int .u32 a, .int .u32 b]] w fun e w' => e = .returned (.bool false) ∧ w.grownBy w' none := by
  rcases may_no h with ⟨rfl, h | ⟨h1, h2⟩ | ⟨h1, h2, h3⟩⟩ | ⟨rfl, h | ⟨h1, h2⟩⟩ | ⟨rfl, h | ⟨h1, h2⟩ | ⟨h1, h2, h3⟩⟩ | ⟨rfl, h⟩ | ⟨rfl, h | ⟨h1, h2⟩ | ⟨h1, h2, h3⟩ | ⟨h1, h2, h3, h4⟩⟩ | ⟨rfl, h⟩ | ⟨h1, h2, h3, h4, h5, h6⟩
  all_goals
    go_enter Tryz.func18, Tryz.ntmps18
    go_wp2_with fail
    go_ret
    refine ⟨?_, World.grownBy_alloc _ _ _⟩
    first | rfl | (simp [h]; done) | (simp; omega)
end RefO
end Go.Proofs.YtneamjaglgnmkaaGreatDoor
