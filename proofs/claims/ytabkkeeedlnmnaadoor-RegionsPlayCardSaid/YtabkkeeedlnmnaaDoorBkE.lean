/- The book: a kind of which it has no list. -/
import Derived.Test.YtabkkeeedlnmnaaDoorRows
import Derived.Test.YtabkkeeedlnmnaaDoorBase
namespace Go.Proofs.YtabkkeeedlnmnaaDoor
open Go.RowKit Go.Shelf Tk
set_option linter.unusedVariables false
set_option linter.unusedSimpArgs false
theorem fillByte_empty (K : Nat) (w : World) (hc : w.cell? ⟨K, 1, none⟩ = some (.slice none 0 0)) : Calls Tryd.prog 71 #[.pointer (some ⟨K, 0, none⟩)] w fun e w' => (∃ v, e = .returned v) ∧ w = w' := by
  go_enter Tryd.func71, Tryd.ntmps71
  go_wp2_with fail
  go_loopw [2] (fun i wr => i = .int .i64 0 ∧ wr = w) (fun _ _ => 0)
  case atStart => exact ⟨rfl, rfl⟩
  case round =>
    obtain ⟨rfl, hww⟩ := hrel
    obtain rfl : w = wr := hww.symm
    go_wp2_with fail
    refine bodyPost_end (results_none rfl _ _ _) rfl ?_
    exact ⟨⟨_, rfl⟩, rfl⟩
theorem growByte_empty (K : Nat) (w : World) (hc : w.cell? ⟨K, 1, none⟩ = some (.slice none 0 0)) : Calls Tryd.prog 79 #[.pointer (some ⟨K, 0, none⟩)] w fun e w' => (∃ v, e = .returned v) ∧ w = w' := by
  go_enter Tryd.func79, Tryd.ntmps79
  go_wp2_with fail
  go_loopw [2] (fun i wr => i = .int .i64 0 ∧ wr = w) (fun _ _ => 0)
  case atStart => exact ⟨rfl, rfl⟩
  case round =>
    obtain ⟨rfl, hww⟩ := hrel
    obtain rfl : w = wr := hww.symm
    go_wp2_with fail
    refine bodyPost_end (results_none rfl _ _ _) rfl ?_
    exact ⟨⟨_, rfl⟩, rfl⟩
theorem lookByte_empty (K : Nat) (w : World) (hc : w.cell? ⟨K, 1, none⟩ = some (.slice none 0 0)) : Calls Tryd.prog 87 #[.pointer (some ⟨K, 0, none⟩)] w fun e w' => e = .returned (.bool true) ∧ w = w' := by
  go_enter Tryd.func87, Tryd.ntmps87
  go_wp2_with fail
  go_loopw [3] (fun i wr => i = .int .i64 0 ∧ wr = w) (fun _ _ => 0)
  case atStart => exact ⟨rfl, rfl⟩
  case round =>
    obtain ⟨rfl, hww⟩ := hrel
    obtain rfl : w = wr := hww.symm
    go_wp2_with fail
    go_ret
    exact ⟨rfl, rfl⟩
theorem fillWord_empty (K : Nat) (w : World) (hc : w.cell? ⟨K, 2, none⟩ = some (.slice none 0 0)) : Calls Tryd.prog 72 #[.pointer (some ⟨K, 0, none⟩)] w fun e w' => (∃ v, e = .returned v) ∧ w = w' := by
  go_enter Tryd.func72, Tryd.ntmps72
  go_wp2_with fail
  go_loopw [2] (fun i wr => i = .int .i64 0 ∧ wr = w) (fun _ _ => 0)
  case atStart => exact ⟨rfl, rfl⟩
  case round =>
    obtain ⟨rfl, hww⟩ := hrel
    obtain rfl : w = wr := hww.symm
    go_wp2_with fail
    refine bodyPost_end (results_none rfl _ _ _) rfl ?_
    exact ⟨⟨_, rfl⟩, rfl⟩
theorem growWord_empty (K : Nat) (w : World) (hc : w.cell? ⟨K, 2, none⟩ = some (.slice none 0 0)) : Calls Tryd.prog 80 #[.pointer (some ⟨K, 0, none⟩)] w fun e w' => (∃ v, e = .returned v) ∧ w = w' := by
  go_enter Tryd.func80, Tryd.ntmps80
  go_wp2_with fail
  go_loopw [2] (fun i wr => i = .int .i64 0 ∧ wr = w) (fun _ _ => 0)
  case atStart => exact ⟨rfl, rfl⟩
  case round =>
    obtain ⟨rfl, hww⟩ := hrel
    obtain rfl : w = wr := hww.symm
    go_wp2_with fail
    refine bodyPost_end (results_none rfl _ _ _) rfl ?_
    exact ⟨⟨_, rfl⟩, rfl⟩
theorem lookWord_empty (K : Nat) (w : World) (hc : w.cell? ⟨K, 2, none⟩ = some (.slice none 0 0)) : Calls Tryd.prog 88 #[.pointer (some ⟨K, 0, none⟩)] w fun e w' => e = .returned (.bool true) ∧ w = w' := by
  go_enter Tryd.func88, Tryd.ntmps88
  go_wp2_with fail
  go_loopw [3] (fun i wr => i = .int .i64 0 ∧ wr = w) (fun _ _ => 0)
  case atStart => exact ⟨rfl, rfl⟩
  case round =>
    obtain ⟨rfl, hww⟩ := hrel
    obtain rfl : w = wr := hww.symm
    go_wp2_with fail
    go_ret
    exact ⟨rfl, rfl⟩
theorem fillInt_empty (K : Nat) (w : World) (hc : w.cell? ⟨K, 3, none⟩ = some (.slice none 0 0)) : Calls Tryd.prog 73 #[.pointer (some ⟨K, 0, none⟩)] w fun e w' => (∃ v, e = .returned v) ∧ w = w' := by
  go_enter Tryd.func73, Tryd.ntmps73
  go_wp2_with fail
  go_loopw [2] (fun i wr => i = .int .i64 0 ∧ wr = w) (fun _ _ => 0)
  case atStart => exact ⟨rfl, rfl⟩
  case round =>
    obtain ⟨rfl, hww⟩ := hrel
    obtain rfl : w = wr := hww.symm
    go_wp2_with fail
    refine bodyPost_end (results_none rfl _ _ _) rfl ?_
    exact ⟨⟨_, rfl⟩, rfl⟩
theorem growInt_empty (K : Nat) (w : World) (hc : w.cell? ⟨K, 3, none⟩ = some (.slice none 0 0)) : Calls Tryd.prog 81 #[.pointer (some ⟨K, 0, none⟩)] w fun e w' => (∃ v, e = .returned v) ∧ w = w' := by
  go_enter Tryd.func81, Tryd.ntmps81
  go_wp2_with fail
  go_loopw [2] (fun i wr => i = .int .i64 0 ∧ wr = w) (fun _ _ => 0)
  case atStart => exact ⟨rfl, rfl⟩
  case round =>
    obtain ⟨rfl, hww⟩ := hrel
    obtain rfl : w = wr := hww.symm
    go_wp2_with fail
    refine bodyPost_end (results_none rfl _ _ _) rfl ?_
    exact ⟨⟨_, rfl⟩, rfl⟩
theorem lookInt_empty (K : Nat) (w : World) (hc : w.cell? ⟨K, 3, none⟩ = some (.slice none 0 0)) : Calls Tryd.prog 89 #[.pointer (some ⟨K, 0, none⟩)] w fun e w' => e = .returned (.bool true) ∧ w = w' := by
  go_enter Tryd.func89, Tryd.ntmps89
  go_wp2_with fail
  go_loopw [3] (fun i wr => i = .int .i64 0 ∧ wr = w) (fun _ _ => 0)
  case atStart => exact ⟨rfl, rfl⟩
  case round =>
    obtain ⟨rfl, hww⟩ := hrel
    obtain rfl : w = wr := hww.symm
    go_wp2_with fail
    go_ret
    exact ⟨rfl, rfl⟩
theorem fillText_empty (K : Nat) (w : World) (hc : w.cell? ⟨K, 4, none⟩ = some (.slice none 0 0)) : Calls Tryd.prog 74 #[.pointer (some ⟨K, 0, none⟩)] w fun e w' => (∃ v, e = .returned v) ∧ w = w' := by
  go_enter Tryd.func74, Tryd.ntmps74
  go_wp2_with fail
  go_loopw [2] (fun i wr => i = .int .i64 0 ∧ wr = w) (fun _ _ => 0)
  case atStart => exact ⟨rfl, rfl⟩
  case round =>
    obtain ⟨rfl, hww⟩ := hrel
    obtain rfl : w = wr := hww.symm
    go_wp2_with fail
    refine bodyPost_end (results_none rfl _ _ _) rfl ?_
    exact ⟨⟨_, rfl⟩, rfl⟩
theorem growText_empty (K : Nat) (w : World) (hc : w.cell? ⟨K, 4, none⟩ = some (.slice none 0 0)) : Calls Tryd.prog 82 #[.pointer (some ⟨K, 0, none⟩)] w fun e w' => (∃ v, e = .returned v) ∧ w = w' := by
  go_enter Tryd.func82, Tryd.ntmps82
  go_wp2_with fail
  go_loopw [2] (fun i wr => i = .int .i64 0 ∧ wr = w) (fun _ _ => 0)
  case atStart => exact ⟨rfl, rfl⟩
  case round =>
    obtain ⟨rfl, hww⟩ := hrel
    obtain rfl : w = wr := hww.symm
    go_wp2_with fail
    refine bodyPost_end (results_none rfl _ _ _) rfl ?_
    exact ⟨⟨_, rfl⟩, rfl⟩
theorem lookText_empty (K : Nat) (w : World) (hc : w.cell? ⟨K, 4, none⟩ = some (.slice none 0 0)) : Calls Tryd.prog 90 #[.pointer (some ⟨K, 0, none⟩)] w fun e w' => e = .returned (.bool true) ∧ w = w' := by
  go_enter Tryd.func90, Tryd.ntmps90
  go_wp2_with fail
  go_loopw [3] (fun i wr => i = .int .i64 0 ∧ wr = w) (fun _ _ => 0)
  case atStart => exact ⟨rfl, rfl⟩
  case round =>
    obtain ⟨rfl, hww⟩ := hrel
    obtain rfl : w = wr := hww.symm
    go_wp2_with fail
    go_ret
    exact ⟨rfl, rfl⟩
theorem fillInstr_empty (K : Nat) (w : World) (hc : w.cell? ⟨K, 5, none⟩ = some (.slice none 0 0)) : Calls Tryd.prog 75 #[.pointer (some ⟨K, 0, none⟩)] w fun e w' => (∃ v, e = .returned v) ∧ w = w' := by
  go_enter Tryd.func75, Tryd.ntmps75
  go_wp2_with fail
  go_loopw [2] (fun i wr => i = .int .i64 0 ∧ wr = w) (fun _ _ => 0)
  case atStart => exact ⟨rfl, rfl⟩
  case round =>
    obtain ⟨rfl, hww⟩ := hrel
    obtain rfl : w = wr := hww.symm
    go_wp2_with fail
    refine bodyPost_end (results_none rfl _ _ _) rfl ?_
    exact ⟨⟨_, rfl⟩, rfl⟩
theorem growInstr_empty (K : Nat) (w : World) (hc : w.cell? ⟨K, 5, none⟩ = some (.slice none 0 0)) : Calls Tryd.prog 83 #[.pointer (some ⟨K, 0, none⟩)] w fun e w' => (∃ v, e = .returned v) ∧ w = w' := by
  go_enter Tryd.func83, Tryd.ntmps83
  go_wp2_with fail
  go_loopw [2] (fun i wr => i = .int .i64 0 ∧ wr = w) (fun _ _ => 0)
  case atStart => exact ⟨rfl, rfl⟩
  case round =>
    obtain ⟨rfl, hww⟩ := hrel
    obtain rfl : w = wr := hww.symm
    go_wp2_with fail
    refine bodyPost_end (results_none rfl _ _ _) rfl ?_
    exact ⟨⟨_, rfl⟩, rfl⟩
theorem lookInstr_empty (K : Nat) (w : World) (hc : w.cell? ⟨K, 5, none⟩ = some (.slice none 0 0)) : Calls Tryd.prog 91 #[.pointer (some ⟨K, 0, none⟩)] w fun e w' => e = .returned (.bool true) ∧ w = w' := by
  go_enter Tryd.func91, Tryd.ntmps91
  go_wp2_with fail
  go_loopw [3] (fun i wr => i = .int .i64 0 ∧ wr = w) (fun _ _ => 0)
  case atStart => exact ⟨rfl, rfl⟩
  case round =>
    obtain ⟨rfl, hww⟩ := hrel
    obtain rfl : w = wr := hww.symm
    go_wp2_with fail
    go_ret
    exact ⟨rfl, rfl⟩
theorem fillAsk_empty (K : Nat) (w : World) (hc : w.cell? ⟨K, 6, none⟩ = some (.slice none 0 0)) : Calls Tryd.prog 76 #[.pointer (some ⟨K, 0, none⟩)] w fun e w' => (∃ v, e = .returned v) ∧ w = w' := by
  go_enter Tryd.func76, Tryd.ntmps76
  go_wp2_with fail
  go_loopw [2] (fun i wr => i = .int .i64 0 ∧ wr = w) (fun _ _ => 0)
  case atStart => exact ⟨rfl, rfl⟩
  case round =>
    obtain ⟨rfl, hww⟩ := hrel
    obtain rfl : w = wr := hww.symm
    go_wp2_with fail
    refine bodyPost_end (results_none rfl _ _ _) rfl ?_
    exact ⟨⟨_, rfl⟩, rfl⟩
theorem growAsk_empty (K : Nat) (w : World) (hc : w.cell? ⟨K, 6, none⟩ = some (.slice none 0 0)) : Calls Tryd.prog 84 #[.pointer (some ⟨K, 0, none⟩)] w fun e w' => (∃ v, e = .returned v) ∧ w = w' := by
  go_enter Tryd.func84, Tryd.ntmps84
  go_wp2_with fail
  go_loopw [2] (fun i wr => i = .int .i64 0 ∧ wr = w) (fun _ _ => 0)
  case atStart => exact ⟨rfl, rfl⟩
  case round =>
    obtain ⟨rfl, hww⟩ := hrel
    obtain rfl : w = wr := hww.symm
    go_wp2_with fail
    refine bodyPost_end (results_none rfl _ _ _) rfl ?_
    exact ⟨⟨_, rfl⟩, rfl⟩
theorem lookAsk_empty (K : Nat) (w : World) (hc : w.cell? ⟨K, 6, none⟩ = some (.slice none 0 0)) : Calls Tryd.prog 92 #[.pointer (some ⟨K, 0, none⟩)] w fun e w' => e = .returned (.bool true) ∧ w = w' := by
  go_enter Tryd.func92, Tryd.ntmps92
  go_wp2_with fail
  go_loopw [3] (fun i wr => i = .int .i64 0 ∧ wr = w) (fun _ _ => 0)
  case atStart => exact ⟨rfl, rfl⟩
  case round =>
    obtain ⟨rfl, hww⟩ := hrel
    obtain rfl : w = wr := hww.symm
    go_wp2_with fail
    go_ret
    exact ⟨rfl, rfl⟩
theorem fillTask_empty (K : Nat) (w : World) (hc : w.cell? ⟨K, 7, none⟩ = some (.slice none 0 0)) : Calls Tryd.prog 77 #[.pointer (some ⟨K, 0, none⟩)] w fun e w' => (∃ v, e = .returned v) ∧ w = w' := by
  go_enter Tryd.func77, Tryd.ntmps77
  go_wp2_with fail
  go_loopw [2] (fun i wr => i = .int .i64 0 ∧ wr = w) (fun _ _ => 0)
  case atStart => exact ⟨rfl, rfl⟩
  case round =>
    obtain ⟨rfl, hww⟩ := hrel
    obtain rfl : w = wr := hww.symm
    go_wp2_with fail
    refine bodyPost_end (results_none rfl _ _ _) rfl ?_
    exact ⟨⟨_, rfl⟩, rfl⟩
theorem growTask_empty (K : Nat) (w : World) (hc : w.cell? ⟨K, 7, none⟩ = some (.slice none 0 0)) : Calls Tryd.prog 85 #[.pointer (some ⟨K, 0, none⟩)] w fun e w' => (∃ v, e = .returned v) ∧ w = w' := by
  go_enter Tryd.func85, Tryd.ntmps85
  go_wp2_with fail
  go_loopw [2] (fun i wr => i = .int .i64 0 ∧ wr = w) (fun _ _ => 0)
  case atStart => exact ⟨rfl, rfl⟩
  case round =>
    obtain ⟨rfl, hww⟩ := hrel
    obtain rfl : w = wr := hww.symm
    go_wp2_with fail
    refine bodyPost_end (results_none rfl _ _ _) rfl ?_
    exact ⟨⟨_, rfl⟩, rfl⟩
theorem lookTask_empty (K : Nat) (w : World) (hc : w.cell? ⟨K, 7, none⟩ = some (.slice none 0 0)) : Calls Tryd.prog 93 #[.pointer (some ⟨K, 0, none⟩)] w fun e w' => e = .returned (.bool true) ∧ w = w' := by
  go_enter Tryd.func93, Tryd.ntmps93
  go_wp2_with fail
  go_loopw [3] (fun i wr => i = .int .i64 0 ∧ wr = w) (fun _ _ => 0)
  case atStart => exact ⟨rfl, rfl⟩
  case round =>
    obtain ⟨rfl, hww⟩ := hrel
    obtain rfl : w = wr := hww.symm
    go_wp2_with fail
    go_ret
    exact ⟨rfl, rfl⟩
theorem fillThing_empty (K : Nat) (w : World) (hc : w.cell? ⟨K, 8, none⟩ = some (.slice none 0 0)) : Calls Tryd.prog 78 #[.pointer (some ⟨K, 0, none⟩)] w fun e w' => (∃ v, e = .returned v) ∧ w = w' := by
  go_enter Tryd.func78, Tryd.ntmps78
  go_wp2_with fail
  go_loopw [2] (fun i wr => i = .int .i64 0 ∧ wr = w) (fun _ _ => 0)
  case atStart => exact ⟨rfl, rfl⟩
  case round =>
    obtain ⟨rfl, hww⟩ := hrel
    obtain rfl : w = wr := hww.symm
    go_wp2_with fail
    refine bodyPost_end (results_none rfl _ _ _) rfl ?_
    exact ⟨⟨_, rfl⟩, rfl⟩
theorem growThing_empty (K : Nat) (w : World) (hc : w.cell? ⟨K, 8, none⟩ = some (.slice none 0 0)) : Calls Tryd.prog 86 #[.pointer (some ⟨K, 0, none⟩)] w fun e w' => (∃ v, e = .returned v) ∧ w = w' := by
  go_enter Tryd.func86, Tryd.ntmps86
  go_wp2_with fail
  go_loopw [2] (fun i wr => i = .int .i64 0 ∧ wr = w) (fun _ _ => 0)
  case atStart => exact ⟨rfl, rfl⟩
  case round =>
    obtain ⟨rfl, hww⟩ := hrel
    obtain rfl : w = wr := hww.symm
    go_wp2_with fail
    refine bodyPost_end (results_none rfl _ _ _) rfl ?_
    exact ⟨⟨_, rfl⟩, rfl⟩
theorem lookThing_empty (K : Nat) (w : World) (hc : w.cell? ⟨K, 8, none⟩ = some (.slice none 0 0)) : Calls Tryd.prog 94 #[.pointer (some ⟨K, 0, none⟩)] w fun e w' => e = .returned (.bool true) ∧ w = w' := by
  go_enter Tryd.func94, Tryd.ntmps94
  go_wp2_with fail
  go_loopw [3] (fun i wr => i = .int .i64 0 ∧ wr = w) (fun _ _ => 0)
  case atStart => exact ⟨rfl, rfl⟩
  case round =>
    obtain ⟨rfl, hww⟩ := hrel
    obtain rfl : w = wr := hww.symm
    go_wp2_with fail
    go_ret
    exact ⟨rfl, rfl⟩
end Go.Proofs.YtabkkeeedlnmnaaDoor
