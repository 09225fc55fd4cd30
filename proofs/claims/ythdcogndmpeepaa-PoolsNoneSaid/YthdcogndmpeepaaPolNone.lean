/- PoolsNone. -/
import Derived.Test.YthdcogndmpeepaaPolA
namespace Go.Proofs.Ythdcogndmpeepaa
open Go.RowKit Go.Shelf Tk
set_option linter.unusedVariables false
set_option linter.unusedSimpArgs false

/-- There is no pool at p. -/
def NoPl (p : Option Addr) (w : World) : Prop := Calls Try.prog 18 #[.pointer p] w fun e w' => e = .returned (.bool false) ∧ w = w'
theorem alloc_no (p : Option Addr) (v : Int) (w : World) (h : NoPl p w) : Calls Try.prog 10 #[.pointer p, .int .u32 v] w fun e w' => e = .returned (.tuple #[.int .i64 0, .int .i64 2]) ∧ w = w' := by
  go_enter Try.func10, Try.ntmps10
  go_wp2_with fail
  refine h.mono ?_; rintro e w' ⟨rfl, rfl⟩
  clear h
  go_wp2_with fail
  go_ret2
  exact ⟨rfl, rfl⟩
theorem free_no (p : Option Addr) (v b : Int) (w : World) (h : NoPl p w) : Calls Try.prog 11 #[.pointer p, .int .u32 v, .int .i64 b] w fun e w' => e = .returned (.int .i64 2) ∧ w = w' := by
  go_enter Try.func11, Try.ntmps11
  go_wp2_with fail
  refine h.mono ?_; rintro e w' ⟨rfl, rfl⟩
  clear h
  go_wp2_with fail
  go_ret
  exact ⟨rfl, rfl⟩
theorem each_no (p : Option Addr) (v : Int) (f : Value) (w : World) (h : NoPl p w) : Calls Try.prog 21 #[.pointer p, .int .u32 v, f] w fun e w' => e = .returned (.int .i64 0) ∧ w = w' := by
  go_enter Try.func21, Try.ntmps21
  go_wp2_with fail
  refine h.mono ?_; rintro e w' ⟨rfl, rfl⟩
  clear h
  go_wp2_with fail
  go_ret
  exact ⟨rfl, rfl⟩
theorem left_no (p : Option Addr) (w : World) (h : NoPl p w) : Calls Try.prog 14 #[.pointer p] w fun e w' => e = .returned (.int .i64 0) ∧ w = w' := by
  go_enter Try.func14, Try.ntmps14
  go_wp2_with fail
  refine (each_no _ _ _ _ h).mono ?_; rintro e w' ⟨rfl, rfl⟩
  clear h
  go_wp2_with fail
  go_ret
  exact ⟨rfl, rfl⟩
theorem owners_no (p : Option Addr) (w : World) (h : NoPl p w) : Calls Try.prog 13 #[.pointer p] w fun e w' => e = .returned (.slice none 0 0) ∧ w = w' := by
  go_enter Try.func13, Try.ntmps13
  go_wp2_with fail
  refine h.mono ?_; rintro e w' ⟨rfl, rfl⟩
  clear h
  go_wp2_with fail
  go_ret
  exact ⟨rfl, rfl⟩
theorem all_no (p : Option Addr) (v : Int) (w : World) (h : ∀ w', w.grownBy w' none → NoPl p w') : Calls Try.prog 12 #[.pointer p, .int .u32 v] w fun e w' => e = .returned (.int .i64 0) ∧ w.grownBy w' none := by
  have hgA := World.grownBy_alloc w (.cells #[.pointer p] 23) none
  have hbx := (Boxed.new w 23 (.pointer p)).cell
  replace h := Lib.hid h
  by_cases hv : v = 0
  · subst hv
    exact all_zero p w
  · have hv0 : (v == 0) = false := by rw [beq_eq_false_iff_ne]; exact hv
    clear hv
    go_enter Try.func12, Try.ntmps12
    go_wp2_with fail
    refine (each_no _ _ _ _ (h.out _ hgA)).mono ?_; rintro e w' ⟨rfl, rfl⟩
    go_wp2_with fail
    go_ret
    exact ⟨rfl, hgA⟩
set_option maxRecDepth 100000 in
set_option maxHeartbeats 4000000 in
theorem poolsNone_walk (a0 : Int) (w0 : (Lit.int .u32 a0).wf = true) (a1 : Int) (w1 : (Lit.int .i64 a1).wf = true) (w : World) :
    Calls Try.prog 3 #[.int .u32 a0, .int .i64 a1] w fun e w' => e = .returned (.bool true) ∧ w.grownBy w' none := by
  have hz := zeroPol
  have hs := polZ_size
  clear w0 w1
  go_enter Try.func3, Try.ntmps3
  go_wp2_with fail
  have hA := Arr.new w polZ 26 65 (pv []) polZ_size (fun i hi => by simp [polZ, hi])
  have hL := Arr.new (w.alloc (.cells polZ 26)) #[.pointer none, .pointer (some ⟨w.heap.size, 0, none⟩)] 23 2 (fun i => if i = 0 then .pointer none else .pointer (some ⟨w.heap.size, 0, none⟩)) rfl (fun i hi => by
    rcases (by omega : i = 0 ∨ i = 1) with rfl | rfl <;> rfl)
  have hA := hA.alloc (.cells #[.pointer none, .pointer (some ⟨w.heap.size, 0, none⟩)] 23)
  have hgA := grown_alloc (World.grownBy_alloc w (.cells polZ 26) none) (.cells #[.pointer none, .pointer (some ⟨w.heap.size, 0, none⟩)] 23)
  rw [World.size_alloc] at hL
  obtain ⟨W, hW⟩ : ∃ W, (w.alloc (.cells polZ 26)).alloc (.cells #[.pointer none, .pointer (some ⟨w.heap.size, 0, none⟩)] 23) = W := ⟨_, rfl⟩
  rw [hW] at hA hL hgA ⊢
  clear hW
  generalize w.heap.size = B at *
  go_loopw [6, 7, 8] (fun i _ _ wr => ∃ k : Nat, k ≤ 2 ∧ i = .int .i64 k ∧ W.grownBy wr none) (fun i _ _ _ => 2 - (intOf i).toNat)
  case atStart => exact ⟨0, by decide, rfl, grown_refl _ _⟩
  case round =>
    obtain ⟨k, hk, rfl, hg1⟩ := hrel
    rcases (by omega : k = 0 ∨ k = 1 ∨ k = 2) with rfl | rfl | rfl
    · have hcell : Hid (∀ w' : World, W.grownBy w' none → w'.cell? ⟨B + 1, 0, none⟩ = some (.pointer none)) := fun w' h => ((hL.kept h (by simp)).cell (i := 0) (by decide)).trans (by simp)
      have hno : Hid (∀ w' : World, W.grownBy w' none → NoPl none w') := fun w' h => there_nil w'
      have hc := hcell.out _ hg1
      go_wp2_with fail
      refine (alloc_no _ _ _ (hno.out _ hg1)).mono ?_; rintro e w' ⟨rfl, rfl⟩
      go_wp2_with fail
      refine (free_no _ _ _ _ (hno.out _ hg1)).mono ?_; rintro e w' ⟨rfl, rfl⟩
      go_wp2_with fail
      refine (all_no _ _ _ (fun w' h => hno.out _ (grown_trans hg1 h))).mono ?_; rintro e w3 ⟨rfl, g⟩
      have hg4 := grown_trans hg1 g
      clear hc g
      have hc := hcell.out _ hg4
      go_wp2_with fail
      refine (owners_no _ _ (hno.out _ hg4)).mono ?_; rintro e w' ⟨rfl, rfl⟩
      go_wp2_with fail
      refine (left_no _ _ (hno.out _ hg4)).mono ?_; rintro e w' ⟨rfl, rfl⟩
      go_wp2_with fail
      go_roundw
      case rel => exact ⟨0 + 1, by omega, rfl, hg4⟩
      case measure => simp [intOf]
    · have hcell : Hid (∀ w' : World, W.grownBy w' none → w'.cell? ⟨B + 1, 1, none⟩ = some (.pointer (some ⟨B, 0, none⟩))) := fun w' h => ((hL.kept h (by simp)).cell (i := 1) (by decide)).trans (by simp)
      have hno : Hid (∀ w' : World, W.grownBy w' none → NoPl (some ⟨B, 0, none⟩) w') := fun w' h => there_zero B w' (((hA.kept h (by simp)).cell (i := 64) (by decide)).trans rfl)
      have hc := hcell.out _ hg1
      go_wp2_with fail
      refine (alloc_no _ _ _ (hno.out _ hg1)).mono ?_; rintro e w' ⟨rfl, rfl⟩
      go_wp2_with fail
      refine (free_no _ _ _ _ (hno.out _ hg1)).mono ?_; rintro e w' ⟨rfl, rfl⟩
      go_wp2_with fail
      refine (all_no _ _ _ (fun w' h => hno.out _ (grown_trans hg1 h))).mono ?_; rintro e w3 ⟨rfl, g⟩
      have hg4 := grown_trans hg1 g
      clear hc g
      have hc := hcell.out _ hg4
      go_wp2_with fail
      refine (owners_no _ _ (hno.out _ hg4)).mono ?_; rintro e w' ⟨rfl, rfl⟩
      go_wp2_with fail
      refine (left_no _ _ (hno.out _ hg4)).mono ?_; rintro e w' ⟨rfl, rfl⟩
      go_wp2_with fail
      go_roundw
      case rel => exact ⟨1 + 1, by omega, rfl, hg4⟩
      case measure => simp [intOf]
    · go_wp2_with fail
      go_ret
      exact ⟨rfl, grown_trans hgA hg1⟩
end Go.Proofs.Ythdcogndmpeepaa
