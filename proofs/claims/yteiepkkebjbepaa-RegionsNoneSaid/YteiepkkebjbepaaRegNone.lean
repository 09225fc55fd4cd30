/- RegionsNone. -/
import Derived.Test.YteiepkkebjbepaaRegA
namespace Go.Proofs.Yteiepkkebjbepaa
open Go.RowKit Go.Shelf Tk
set_option linter.unusedVariables false
set_option linter.unusedSimpArgs false

/-- The cells of a region that no call made. -/
def rZ (i : Nat) : Value := if i = 0 then .slice none 0 0 else .bool false
theorem no_zero {B : Nat} {v : Value} {m : Nat} {w : World} (h : Arr w B 2 rZ) : NoPart (.pointer (some ⟨B, 0, none⟩)) v m 2 w := part_zero B v _ w (h.cell (i := 1) (by decide))

set_option maxRecDepth 100000 in
set_option maxHeartbeats 4000000 in
theorem regionsNone_walk (a0 : Int) (w0 : (Lit.int .u32 a0).wf = true) (a1 : Int) (w1 : (Lit.int .u32 a1).wf = true) (w : World) :
    Calls Try.prog 3 #[.int .u32 a0, .int .u32 a1] w fun e w' => e = .returned (.bool true) ∧ w.grownBy w' none := by
  go_enter Try.func3, Try.ntmps3
  go_wp2_with fail
  have hA := Arr.new w #[.slice none 0 0, .bool false] 26 2 (rZ) rfl (fun i hi => by rcases (by omega : i = 0 ∨ i = 1) with rfl | rfl <;> rfl)
  have hL := Arr.new (w.alloc (.cells #[.slice none 0 0, .bool false] 26)) #[.pointer none, .pointer (some ⟨w.heap.size, 0, none⟩)] 23 2 (fun i => if i = 0 then .pointer none else .pointer (some ⟨w.heap.size, 0, none⟩)) rfl (fun i hi => by
    rcases (by omega : i = 0 ∨ i = 1) with rfl | rfl <;> rfl)
  have hA := hA.alloc (.cells #[.pointer none, .pointer (some ⟨w.heap.size, 0, none⟩)] 23)
  have hgA := grown_alloc (World.grownBy_alloc w (.cells #[.slice none 0 0, .bool false] 26) none) (.cells #[.pointer none, .pointer (some ⟨w.heap.size, 0, none⟩)] 23)
  rw [World.size_alloc] at hL
  obtain ⟨W, hW⟩ : ∃ W, (w.alloc (.cells #[.slice none 0 0, .bool false] 26)).alloc (.cells #[.pointer none, .pointer (some ⟨w.heap.size, 0, none⟩)] 23) = W := ⟨_, rfl⟩
  rw [hW] at hA hL hgA ⊢
  clear hW
  generalize w.heap.size = B at *
  go_loopw [6, 7, 8, 9, 10] (fun i _ _ _ _ wr => ∃ k : Nat, k ≤ 2 ∧ i = .int .i64 k ∧ W.grownBy wr none) (fun i _ _ _ _ _ => 2 - (intOf i).toNat)
  case atStart => exact ⟨0, by decide, rfl, grown_refl _ _⟩
  case round =>
    obtain ⟨k, hk, rfl, hg1⟩ := hrel
    have hA1 := hA.kept hg1 (by simp)
    have hL1 := hL.kept hg1 (by simp)
    rcases (by omega : k = 0 ∨ k = 1 ∨ k = 2) with rfl | rfl | rfl
    · have hcell : Hid (∀ w' : World, W.grownBy w' none → w'.cell? ⟨B + 1, 0, none⟩ = some (.pointer none)) := fun w' h => ((hL.kept h (by simp)).cell (i := 0) (by decide)).trans (by simp)
      have hAt : Hid (∀ w' : World, W.grownBy w' none → Arr w' B 2 (rZ)) := fun w' h => hA.kept h (by simp)
      have hc := hcell.out _ hg1
      clear hL1 hA1
      go_wp2_with fail
      refine (word_no _ _ 2 _ (part_nil _ _ _)).mono ?_; rintro e w' ⟨rfl, rfl⟩
      go_wp2_with fail
      refine (byte_no _ _ 2 (by decide) _ (part_nil _ _ _)).mono ?_; rintro e w' ⟨rfl, rfl⟩
      go_wp2_with fail
      refine (setWord_no _ _ _ 2 _ (part_nil _ _ _)).mono ?_; rintro e w3 ⟨rfl, g⟩
      have hg4 := grown_trans hg1 g
      clear hc g
      have hc := hcell.out _ hg4
      go_wp2_with fail
      refine (setByte_no _ _ _ 2 _ (part_nil _ _ _)).mono ?_; rintro e w4 ⟨rfl, g⟩
      have hg5 := grown_trans hg4 g
      clear hc g
      have hc := hcell.out _ hg5
      go_wp2_with fail
      refine (bytes_nil _).mono ?_; rintro e w' ⟨rfl, rfl⟩
      go_wp2_with fail
      go_roundw
      case rel => exact ⟨1, by omega, rfl, hg5⟩
      case measure => simp [intOf]
    · have hcell : Hid (∀ w' : World, W.grownBy w' none → w'.cell? ⟨B + 1, 1, none⟩ = some (.pointer (some ⟨B, 0, none⟩))) := fun w' h => ((hL.kept h (by simp)).cell (i := 1) (by decide)).trans (by simp)
      have hAt : Hid (∀ w' : World, W.grownBy w' none → Arr w' B 2 (rZ)) := fun w' h => hA.kept h (by simp)
      have hc := hcell.out _ hg1
      clear hL1 hA1
      go_wp2_with fail
      refine (word_no _ _ 2 _ (no_zero (hAt.out _ hg1))).mono ?_; rintro e w' ⟨rfl, rfl⟩
      go_wp2_with fail
      refine (byte_no _ _ 2 (by decide) _ (no_zero (hAt.out _ hg1))).mono ?_; rintro e w' ⟨rfl, rfl⟩
      go_wp2_with fail
      refine (setWord_no _ _ _ 2 _ (no_zero (hAt.out _ hg1))).mono ?_; rintro e w3 ⟨rfl, g⟩
      have hg4 := grown_trans hg1 g
      clear hc g
      have hc := hcell.out _ hg4
      go_wp2_with fail
      refine (setByte_no _ _ _ 2 _ (no_zero (hAt.out _ hg4))).mono ?_; rintro e w4 ⟨rfl, g⟩
      have hg5 := grown_trans hg4 g
      clear hc g
      have hc := hcell.out _ hg5
      go_wp2_with fail
      refine (bytes_zero _ _ (Arr.cell (hAt.out _ hg5) (i := 0) (by decide))).mono ?_; rintro e w' ⟨rfl, rfl⟩
      go_wp2_with fail
      go_roundw
      case rel => exact ⟨2, by omega, rfl, hg5⟩
      case measure => simp [intOf]
    · go_wp2_with fail
      go_ret
      exact ⟨rfl, grown_trans hgA hg1⟩
end Go.Proofs.Yteiepkkebjbepaa
