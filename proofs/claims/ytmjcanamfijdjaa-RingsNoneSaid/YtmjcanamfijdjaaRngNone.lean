/- RingsNone. -/
import Derived.Test.YtmjcanamfijdjaaRngA
namespace Go.Proofs.Ytmjcanamfijdjaa
open Go.RowKit Go.Shelf Tk
set_option linter.unusedVariables false
set_option linter.unusedSimpArgs false

/-- There is no ring at p. -/
def NoRg (p : Option Addr) (w : World) : Prop := Calls Try.prog 20 #[.pointer p] w fun e w' => e = .returned (.bool false) ∧ w = w'
theorem may_none (p : Option Addr) (n : Int) (w : World) (h : NoRg p w) : Calls Try.prog 22 #[.pointer p, .int .i64 n] w fun e w' => e = .returned (.int .i64 2) ∧ ∃ nd, w.drewN nd = w' := by
  go_enter Try.func22, Try.ntmps22
  go_wp2_with fail
  refine h.mono ?_; rintro e w' ⟨rfl, rfl⟩
  clear h
  go_wp2_with fail
  go_ret
  exact ⟨rfl, 0, rfl⟩
theorem take_none (p : Option Addr) (w : World) (h : NoRg p w) : Calls Try.prog 9 #[.pointer p] w fun e w' => e = .returned (.tuple #[.int .i64 0, .int .i64 2]) ∧ w = w' := by
  go_enter Try.func9, Try.ntmps9
  go_wp2_with fail
  refine h.mono ?_; rintro e w' ⟨rfl, rfl⟩
  clear h
  go_wp2_with fail
  go_ret2
  exact ⟨rfl, rfl⟩
theorem remove_none (p : Option Addr) (n : Int) (w : World) (h : NoRg p w) : Calls Try.prog 12 #[.pointer p, .int .i64 n] w fun e w' => e = .returned (.int .i64 2) ∧ w = w' := by
  go_enter Try.func12, Try.ntmps12
  go_wp2_with fail
  refine h.mono ?_; rintro e w' ⟨rfl, rfl⟩
  clear h
  go_wp2_with fail
  go_ret
  exact ⟨rfl, rfl⟩
theorem turn_none (p : Option Addr) (w : World) (h : NoRg p w) : Calls Try.prog 13 #[.pointer p] w fun e w' => e = .returned (.int .i64 2) ∧ w = w' := by
  go_enter Try.func13, Try.ntmps13
  go_wp2_with fail
  refine (take_none p w h).mono ?_; rintro e w' ⟨rfl, rfl⟩
  clear h
  go_wp2_with fail
  go_ret
  exact ⟨rfl, rfl⟩
theorem list_none (p : Option Addr) (w : World) (h : NoRg p w) : Calls Try.prog 14 #[.pointer p] w fun e w' => e = .returned (.slice none 0 0) ∧ w = w' := by
  go_enter Try.func14, Try.ntmps14
  go_wp2_with fail
  refine h.mono ?_; rintro e w' ⟨rfl, rfl⟩
  clear h
  go_wp2_with fail
  go_ret
  exact ⟨rfl, rfl⟩
/-- The cells of a ring that no call made. -/
def rngZ : Array Value := #[.slice none 0 0, .int .i64 0, .int .i64 0]
def rz (i : Nat) : Value := if i = 0 then .slice none 0 0 else .int .i64 0
theorem zeroRng (w : World) : (zeroValue 27).run Try.prog w = .ok (.agg rngZ) w := by kernel_rfl
set_option maxRecDepth 100000 in
set_option maxHeartbeats 4000000 in
theorem ringsNone_walk (a0 : Int) (w0 : (Lit.int .i64 a0).wf = true) (w : World) :
    Calls Try.prog 3 #[.int .i64 a0] w fun e w' => e = .returned (.bool true) ∧ w.grownBy w' none := by
  have hz := zeroRng
  clear w0
  go_enter Try.func3, Try.ntmps3
  go_wp2_with fail
  have hA := Arr.new w rngZ 27 3 rz rfl (fun i hi => by rcases (by omega : i = 0 ∨ i = 1 ∨ i = 2) with rfl | rfl | rfl <;> rfl)
  have hL := Arr.new (w.alloc (.cells rngZ 27)) #[.pointer none, .pointer (some ⟨w.heap.size, 0, none⟩)] 22 2 (fun i => if i = 0 then .pointer none else .pointer (some ⟨w.heap.size, 0, none⟩)) rfl (fun i hi => by
    rcases (by omega : i = 0 ∨ i = 1) with rfl | rfl <;> rfl)
  have hA := hA.alloc (.cells #[.pointer none, .pointer (some ⟨w.heap.size, 0, none⟩)] 22)
  have hgA := grown_alloc (World.grownBy_alloc w (.cells rngZ 27) none) (.cells #[.pointer none, .pointer (some ⟨w.heap.size, 0, none⟩)] 22)
  rw [World.size_alloc] at hL
  obtain ⟨W, hW⟩ : ∃ W, (w.alloc (.cells rngZ 27)).alloc (.cells #[.pointer none, .pointer (some ⟨w.heap.size, 0, none⟩)] 22) = W := ⟨_, rfl⟩
  rw [hW] at hA hL hgA ⊢
  clear hW
  generalize w.heap.size = B at *
  go_loopw [4, 5, 6] (fun i _ _ wr => ∃ k : Nat, k ≤ 2 ∧ i = .int .i64 k ∧ W.grownBy wr none) (fun i _ _ _ => 2 - (intOf i).toNat)
  case atStart => exact ⟨0, by decide, rfl, grown_refl _ _⟩
  case round =>
    obtain ⟨k, hk, rfl, hg1⟩ := hrel
    rcases (by omega : k = 0 ∨ k = 1 ∨ k = 2) with rfl | rfl | rfl
    · have hcell : Hid (∀ w' : World, W.grownBy w' none → w'.cell? ⟨B + 1, 0, none⟩ = some (.pointer none)) := fun w' h => ((hL.kept h (by simp)).cell (i := 0) (by decide)).trans (by simp)
      have hno : Hid (∀ w' : World, W.grownBy w' none → NoRg none w') := fun w' h => there_nil w'
      have hc := hcell.out _ hg1
      go_wp2_with fail
      refine (take_none _ _ (hno.out _ hg1)).mono ?_; rintro e w' ⟨rfl, rfl⟩
      go_wp2_with fail
      refine (put_no _ _ 2 (by decide) _ (may_none _ _ _ (hno.out _ hg1))).mono ?_; rintro e w3 ⟨rfl, n1, rfl⟩
      have hg2 := grown_drewN hg1 n1
      go_wp2_with fail
      refine (push_no _ _ 2 (by decide) _ (may_none _ _ _ (hno.out _ hg2))).mono ?_; rintro e w3 ⟨rfl, n2, rfl⟩
      have hg3 := grown_drewN hg1 (n1 + n2)
      go_wp2_with fail
      refine (remove_none _ _ _ (hno.out _ hg3)).mono ?_; rintro e w' ⟨rfl, rfl⟩
      go_wp2_with fail
      refine (turn_none _ _ (hno.out _ hg3)).mono ?_; rintro e w' ⟨rfl, rfl⟩
      go_wp2_with fail
      refine (list_none _ _ (hno.out _ hg3)).mono ?_; rintro e w' ⟨rfl, rfl⟩
      go_wp2_with fail
      go_roundw
      case rel => exact ⟨0 + 1, by omega, rfl, hg3⟩
      case measure => simp [intOf]
    · have hcell : Hid (∀ w' : World, W.grownBy w' none → w'.cell? ⟨B + 1, 1, none⟩ = some (.pointer (some ⟨B, 0, none⟩))) := fun w' h => ((hL.kept h (by simp)).cell (i := 1) (by decide)).trans (by simp)
      have hno : Hid (∀ w' : World, W.grownBy w' none → NoRg (some ⟨B, 0, none⟩) w') := fun w' h => there_zero B w' (((hA.kept h (by simp)).cell (i := 0) (by decide)).trans rfl)
      have hc := hcell.out _ hg1
      go_wp2_with fail
      refine (take_none _ _ (hno.out _ hg1)).mono ?_; rintro e w' ⟨rfl, rfl⟩
      go_wp2_with fail
      refine (put_no _ _ 2 (by decide) _ (may_none _ _ _ (hno.out _ hg1))).mono ?_; rintro e w3 ⟨rfl, n1, rfl⟩
      have hg2 := grown_drewN hg1 n1
      go_wp2_with fail
      refine (push_no _ _ 2 (by decide) _ (may_none _ _ _ (hno.out _ hg2))).mono ?_; rintro e w3 ⟨rfl, n2, rfl⟩
      have hg3 := grown_drewN hg1 (n1 + n2)
      go_wp2_with fail
      refine (remove_none _ _ _ (hno.out _ hg3)).mono ?_; rintro e w' ⟨rfl, rfl⟩
      go_wp2_with fail
      refine (turn_none _ _ (hno.out _ hg3)).mono ?_; rintro e w' ⟨rfl, rfl⟩
      go_wp2_with fail
      refine (list_none _ _ (hno.out _ hg3)).mono ?_; rintro e w' ⟨rfl, rfl⟩
      go_wp2_with fail
      go_roundw
      case rel => exact ⟨1 + 1, by omega, rfl, hg3⟩
      case measure => simp [intOf]
    · go_wp2_with fail
      go_ret
      exact ⟨rfl, grown_trans hgA hg1⟩
end Go.Proofs.Ytmjcanamfijdjaa
