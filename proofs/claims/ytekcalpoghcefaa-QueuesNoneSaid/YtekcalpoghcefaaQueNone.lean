/- QueuesNone. -/
import Derived.Test.YtekcalpoghcefaaQueA
namespace Go.Proofs.Ytekcalpoghcefaa
open Go.RowKit Go.Shelf Tk
set_option linter.unusedVariables false
set_option linter.unusedSimpArgs false

theorem zero66 {B : Nat} {w : World} (h : Arr w B 67 (qv (fun _ => 0) 0 0 0)) : w.cell? ⟨B, 66, none⟩ = some (.int .i64 0) := h.cell (i := 66) (by decide)
theorem zero65 {B : Nat} {w : World} (h : Arr w B 67 (qv (fun _ => 0) 0 0 0)) : w.cell? ⟨B, 65, none⟩ = some (.int .i64 0) := h.cell (i := 65) (by decide)
theorem room_none {p : Value} {w : World} (h : Calls Try.prog 19 #[p] w fun e w' => e = .returned (.int .i64 2) ∧ w = w') : Calls Try.prog 19 #[p] w fun e w' => e = .returned (.int .i64 (2 : Nat)) ∧ w.grownBy w' none := h.mono fun _ _ ⟨h1, h2⟩ => ⟨h1, h2 ▸ grown_refl _ _⟩
set_option maxRecDepth 100000 in
set_option maxHeartbeats 4000000 in
theorem queuesNone_walk (a0 : Int) (w0 : (Lit.int .u32 a0).wf = true) (w : World) :
    Calls Try.prog 3 #[.int .u32 a0] w fun e w' => e = .returned (.bool true) ∧ w.grownBy w' none := by
  have hz := zeroQue
  have hs := queZ_size
  go_enter Try.func3, Try.ntmps3
  go_wp2_with fail
  have hA := Arr.new w queZ 28 67 (qv (fun _ => 0) 0 0 0) queZ_size (fun i hi => by simp [queZ, hi])
  have hL := Arr.new (w.alloc (.cells queZ 28)) #[.pointer none, .pointer (some ⟨w.heap.size, 0, none⟩)] 23 2 (fun i => if i = 0 then .pointer none else .pointer (some ⟨w.heap.size, 0, none⟩)) rfl (fun i hi => by
    rcases (by omega : i = 0 ∨ i = 1) with rfl | rfl <;> rfl)
  have hA := hA.alloc (.cells #[.pointer none, .pointer (some ⟨w.heap.size, 0, none⟩)] 23)
  have hgA := grown_alloc (World.grownBy_alloc w (.cells queZ 28) none) (.cells #[.pointer none, .pointer (some ⟨w.heap.size, 0, none⟩)] 23)
  rw [World.size_alloc] at hL
  obtain ⟨W, hW⟩ : ∃ W, (w.alloc (.cells queZ 28)).alloc (.cells #[.pointer none, .pointer (some ⟨w.heap.size, 0, none⟩)] 23) = W := ⟨_, rfl⟩
  rw [hW] at hA hL hgA ⊢
  clear hW
  generalize w.heap.size = B at *
  go_loopw [4, 5, 6, 7, 8] (fun i _ _ _ _ wr => ∃ k : Nat, k ≤ 2 ∧ i = .int .i64 k ∧ W.grownBy wr none) (fun i _ _ _ _ _ => 2 - (intOf i).toNat)
  case atStart => exact ⟨0, by decide, rfl, grown_refl _ _⟩
  case round =>
    obtain ⟨k, hk, rfl, hg1⟩ := hrel
    have hA1 := hA.kept hg1 (by simp)
    have hL1 := hL.kept hg1 (by simp)
    rcases (by omega : k = 0 ∨ k = 1 ∨ k = 2) with rfl | rfl | rfl
    · have hcell : Hid (∀ w' : World, W.grownBy w' none → w'.cell? ⟨B + 1, 0, none⟩ = some (.pointer none)) := fun w' h => ((hL.kept h (by simp)).cell (i := 0) (by decide)).trans (by simp)
      have hAt : Hid (∀ w' : World, W.grownBy w' none → Arr w' B 67 (qv (fun _ => 0) 0 0 0)) := fun w' h => hA.kept h (by simp)
      have hc := hcell.out _ hg1
      clear hL1 hA1
      go_wp2_with fail
      refine (take_no _ 2 (by decide) _ (peek_nil _)).mono ?_; rintro e w' ⟨rfl, rfl⟩
      go_wp2_with fail
      refine (peek_nil _).mono ?_; rintro e w' ⟨rfl, rfl⟩
      go_wp2_with fail
      refine (put_no _ _ 2 (by decide) _ (room_none (room_nil _))).mono ?_; rintro e w3 ⟨rfl, g⟩
      have hg4 := grown_trans hg1 g
      clear hc g
      have hc := hcell.out _ hg4
      go_wp2_with fail
      refine (push_no _ _ 2 (by decide) _ (room_none (room_nil _))).mono ?_; rintro e w4 ⟨rfl, g⟩
      have hg5 := grown_trans hg4 g
      clear hc g
      have hc := hcell.out _ hg5
      go_wp2_with fail
      refine (list_nil _).mono ?_; rintro e w' ⟨rfl, rfl⟩
      go_wp2_with fail
      go_roundw
      case rel => exact ⟨1, by omega, rfl, hg5⟩
      case measure => simp [intOf]
    · have hcell : Hid (∀ w' : World, W.grownBy w' none → w'.cell? ⟨B + 1, 1, none⟩ = some (.pointer (some ⟨B, 0, none⟩))) := fun w' h => ((hL.kept h (by simp)).cell (i := 1) (by decide)).trans (by simp)
      have hAt : Hid (∀ w' : World, W.grownBy w' none → Arr w' B 67 (qv (fun _ => 0) 0 0 0)) := fun w' h => hA.kept h (by simp)
      have hc := hcell.out _ hg1
      clear hL1 hA1
      go_wp2_with fail
      refine (take_no _ 2 (by decide) _ (peek_zero _ _ (zero66 (hAt.out _ hg1)))).mono ?_; rintro e w' ⟨rfl, rfl⟩
      go_wp2_with fail
      refine (peek_zero _ _ (zero66 (hAt.out _ hg1))).mono ?_; rintro e w' ⟨rfl, rfl⟩
      go_wp2_with fail
      refine (put_no _ _ 2 (by decide) _ (room_none (room_zero _ _ (zero66 (hAt.out _ hg1))))).mono ?_; rintro e w3 ⟨rfl, g⟩
      have hg4 := grown_trans hg1 g
      clear hc g
      have hc := hcell.out _ hg4
      go_wp2_with fail
      refine (push_no _ _ 2 (by decide) _ (room_none (room_zero _ _ (zero66 (hAt.out _ hg4))))).mono ?_; rintro e w4 ⟨rfl, g⟩
      have hg5 := grown_trans hg4 g
      clear hc g
      have hc := hcell.out _ hg5
      go_wp2_with fail
      refine (list_zero _ _ (zero65 (hAt.out _ hg5))).mono ?_; rintro e w' ⟨rfl, rfl⟩
      go_wp2_with fail
      go_roundw
      case rel => exact ⟨2, by omega, rfl, hg5⟩
      case measure => simp [intOf]
    · go_wp2_with fail
      go_ret
      exact ⟨rfl, grown_trans hgA hg1⟩
end Go.Proofs.Ytekcalpoghcefaa
