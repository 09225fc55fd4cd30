/- ladders.Set. -/
import Derived.Test.YtdbddfbdhgohbaaGreatDoorLad
namespace Go.Proofs.YtdbddfbdhgohbaaGreatDoor
open Go.RowKit Go.Shelf Tk Tk.Lad
set_option linter.unusedVariables false
set_option linter.unusedSimpArgs false
set_option maxHeartbeats 400000 in
theorem set_any (l : Nat) (hl : l < 4294967296) (r : Int) (w : World) :
    Calls Tryz.prog 87 #[.int .u32 l, .int .i64 r] w fun e w' => e = .returned (.int .u32 (setN l r)) ∧ w = w' := by
  have HS : Hid (bits .or .u32 (l : Int) (stepN r : Int) = (setN l r : Int)) := set_bits hl r
  go_enter Tryz.func87, Tryz.ntmps87
  go_wp2_with (go_at_call 91; refine (step_any _ _).mono ?_; rintro e w' ⟨rfl, rfl⟩)
  go_ret
  exact ⟨by rw [← HS.out]; rfl, rfl⟩

end Go.Proofs.YtdbddfbdhgohbaaGreatDoor
