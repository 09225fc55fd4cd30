/- The book: a kind of which it has no list. -/
import Derived.Test.YtigghlnnhdoabaaDoorRows
import Derived.Test.YtigghlnnhdoabaaDoorBase
namespace Go.Proofs.YtigghlnnhdoabaaDoor
open Go.RowKit Go.Shelf Tk
set_option linter.unusedVariables false
set_option linter.unusedSimpArgs false
theorem fillByte_empty (K : Nat) (w : World) (hc : w.cell? ⟨K, 1, none⟩ = some (.slice none 0 0)) : Calls Tryd.prog 16 #[.pointer (some ⟨K, 0, none⟩)] w fun e w' => (∃ v, e = .returned v) ∧ w = w' := by
  go_enter Tryd.func16, Tryd.ntmps16
  go_wp2_with fail
  go_loopw [2] (fun i wr => i = .int .i64 0 ∧ wr = w) (fun _ _ => 0)
  case atStart => exact ⟨rfl, rfl⟩
  case round =>
    obtain ⟨rfl, hww⟩ := hrel
    obtain rfl : w = wr := hww.symm
    go_wp2_with fail
    refine bodyPost_end (results_none rfl _ _ _) rfl ?_
    exact ⟨⟨_, rfl⟩, rfl⟩
theorem growByte_empty (K : Nat) (w : World) (hc : w.cell? ⟨K, 1, none⟩ = some (.slice none 0 0)) : Calls Tryd.prog 24 #[.pointer (some ⟨K, 0, none⟩)] w fun e w' => (∃ v, e = .returned v) ∧ w = w' := by
  go_enter Tryd.func24, Tryd.ntmps24
  go_wp2_with fail
  go_loopw [2] (fun i wr => i = .int .i64 0 ∧ wr = w) (fun _ _ => 0)
  case atStart => exact ⟨rfl, rfl⟩
  case round =>
    obtain ⟨rfl, hww⟩ := hrel
    obtain rfl : w = wr := hww.symm
    go_wp2_with fail
    refine bodyPost_end (results_none rfl _ _ _) rfl ?_
    exact ⟨⟨_, rfl⟩, rfl⟩
theorem lookByte_empty (K : Nat) (w : World) (hc : w.cell? ⟨K, 1, none⟩ = some (.slice none 0 0)) : Calls Tryd.prog 32 #[.pointer (some ⟨K, 0, none⟩)] w fun e w' => e = .returned (.bool true) ∧ w = w' := by
  go_enter Tryd.func32, Tryd.ntmps32
  go_wp2_with fail
  go_loopw [3] (fun i wr => i = .int .i64 0 ∧ wr = w) (fun _ _ => 0)
  case atStart => exact ⟨rfl, rfl⟩
  case round =>
    obtain ⟨rfl, hww⟩ := hrel
    obtain rfl : w = wr := hww.symm
    go_wp2_with fail
    go_ret
    exact ⟨rfl, rfl⟩
theorem fillWord_empty (K : Nat) (w : World) (hc : w.cell? ⟨K, 2, none⟩ = some (.slice none 0 0)) : Calls Tryd.prog 17 #[.pointer (some ⟨K, 0, none⟩)] w fun e w' => (∃ v, e = .returned v) ∧ w = w' := by
  go_enter Tryd.func17, Tryd.ntmps17
  go_wp2_with fail
  go_loopw [2] (fun i wr => i = .int .i64 0 ∧ wr = w) (fun _ _ => 0)
  case atStart => exact ⟨rfl, rfl⟩
  case round =>
    obtain ⟨rfl, hww⟩ := hrel
    obtain rfl : w = wr := hww.symm
    go_wp2_with fail
    refine bodyPost_end (results_none rfl _ _ _) rfl ?_
    exact ⟨⟨_, rfl⟩, rfl⟩
theorem growWord_empty (K : Nat) (w : World) (hc : w.cell? ⟨K, 2, none⟩ = some (.slice none 0 0)) : Calls Tryd.prog 25 #[.pointer (some ⟨K, 0, none⟩)] w fun e w' => (∃ v, e = .returned v) ∧ w = w' := by
  go_enter Tryd.func25, Tryd.ntmps25
  go_wp2_with fail
  go_loopw [2] (fun i wr => i = .int .i64 0 ∧ wr = w) (fun _ _ => 0)
  case atStart => exact ⟨rfl, rfl⟩
  case round =>
    obtain ⟨rfl, hww⟩ := hrel
    obtain rfl : w = wr := hww.symm
    go_wp2_with fail
    refine bodyPost_end (results_none rfl _ _ _) rfl ?_
    exact ⟨⟨_, rfl⟩, rfl⟩
theorem lookWord_empty (K : Nat) (w : World) (hc : w.cell? ⟨K, 2, none⟩ = some (.slice none 0 0)) : Calls Tryd.prog 33 #[.pointer (some ⟨K, 0, none⟩)] w fun e w' => e = .returned (.bool true) ∧ w = w' := by
  go_enter Tryd.func33, Tryd.ntmps33
  go_wp2_with fail
  go_loopw [3] (fun i wr => i = .int .i64 0 ∧ wr = w) (fun _ _ => 0)
  case atStart => exact ⟨rfl, rfl⟩
  case round =>
    obtain ⟨rfl, hww⟩ := hrel
    obtain rfl : w = wr := hww.symm
    go_wp2_with fail
    go_ret
    exact ⟨rfl, rfl⟩
theorem fillInt_empty (K : Nat) (w : World) (hc : w.cell? ⟨K, 3, none⟩ = some (.slice none 0 0)) : Calls Tryd.prog 18 #[.pointer (some ⟨K, 0, none⟩)] w fun e w' => (∃ v, e = .returned v) ∧ w = w' := by
  go_enter Tryd.func18, Tryd.ntmps18
  go_wp2_with fail
  go_loopw [2] (fun i wr => i = .int .i64 0 ∧ wr = w) (fun _ _ => 0)
  case atStart => exact ⟨rfl, rfl⟩
  case round =>
    obtain ⟨rfl, hww⟩ := hrel
    obtain rfl : w = wr := hww.symm
    go_wp2_with fail
    refine bodyPost_end (results_none rfl _ _ _) rfl ?_
    exact ⟨⟨_, rfl⟩, rfl⟩
theorem growInt_empty (K : Nat) (w : World) (hc : w.cell? ⟨K, 3, none⟩ = some (.slice none 0 0)) : Calls Tryd.prog 26 #[.pointer (some ⟨K, 0, none⟩)] w fun e w' => (∃ v, e = .returned v) ∧ w = w' := by
  go_enter Tryd.func26, Tryd.ntmps26
  go_wp2_with fail
  go_loopw [2] (fun i wr => i = .int .i64 0 ∧ wr = w) (fun _ _ => 0)
  case atStart => exact ⟨rfl, rfl⟩
  case round =>
    obtain ⟨rfl, hww⟩ := hrel
    obtain rfl : w = wr := hww.symm
    go_wp2_with fail
    refine bodyPost_end (results_none rfl _ _ _) rfl ?_
    exact ⟨⟨_, rfl⟩, rfl⟩
theorem lookInt_empty (K : Nat) (w : World) (hc : w.cell? ⟨K, 3, none⟩ = some (.slice none 0 0)) : Calls Tryd.prog 34 #[.pointer (some ⟨K, 0, none⟩)] w fun e w' => e = .returned (.bool true) ∧ w = w' := by
  go_enter Tryd.func34, Tryd.ntmps34
  go_wp2_with fail
  go_loopw [3] (fun i wr => i = .int .i64 0 ∧ wr = w) (fun _ _ => 0)
  case atStart => exact ⟨rfl, rfl⟩
  case round =>
    obtain ⟨rfl, hww⟩ := hrel
    obtain rfl : w = wr := hww.symm
    go_wp2_with fail
    go_ret
    exact ⟨rfl, rfl⟩
theorem fillText_empty (K : Nat) (w : World) (hc : w.cell? ⟨K, 4, none⟩ = some (.slice none 0 0)) : Calls Tryd.prog 19 #[.pointer (some ⟨K, 0, none⟩)] w fun e w' => (∃ v, e = .returned v) ∧ w = w' := by
  go_enter Tryd.func19, Tryd.ntmps19
  go_wp2_with fail
  go_loopw [2] (fun i wr => i = .int .i64 0 ∧ wr = w) (fun _ _ => 0)
  case atStart => exact ⟨rfl, rfl⟩
  case round =>
    obtain ⟨rfl, hww⟩ := hrel
    obtain rfl : w = wr := hww.symm
    go_wp2_with fail
    refine bodyPost_end (results_none rfl _ _ _) rfl ?_
    exact ⟨⟨_, rfl⟩, rfl⟩
theorem growText_empty (K : Nat) (w : World) (hc : w.cell? ⟨K, 4, none⟩ = some (.slice none 0 0)) : Calls Tryd.prog 27 #[.pointer (some ⟨K, 0, none⟩)] w fun e w' => (∃ v, e = .returned v) ∧ w = w' := by
  go_enter Tryd.func27, Tryd.ntmps27
  go_wp2_with fail
  go_loopw [2] (fun i wr => i = .int .i64 0 ∧ wr = w) (fun _ _ => 0)
  case atStart => exact ⟨rfl, rfl⟩
  case round =>
    obtain ⟨rfl, hww⟩ := hrel
    obtain rfl : w = wr := hww.symm
    go_wp2_with fail
    refine bodyPost_end (results_none rfl _ _ _) rfl ?_
    exact ⟨⟨_, rfl⟩, rfl⟩
theorem lookText_empty (K : Nat) (w : World) (hc : w.cell? ⟨K, 4, none⟩ = some (.slice none 0 0)) : Calls Tryd.prog 35 #[.pointer (some ⟨K, 0, none⟩)] w fun e w' => e = .returned (.bool true) ∧ w = w' := by
  go_enter Tryd.func35, Tryd.ntmps35
  go_wp2_with fail
  go_loopw [3] (fun i wr => i = .int .i64 0 ∧ wr = w) (fun _ _ => 0)
  case atStart => exact ⟨rfl, rfl⟩
  case round =>
    obtain ⟨rfl, hww⟩ := hrel
    obtain rfl : w = wr := hww.symm
    go_wp2_with fail
    go_ret
    exact ⟨rfl, rfl⟩
theorem fillInstr_empty (K : Nat) (w : World) (hc : w.cell? ⟨K, 5, none⟩ = some (.slice none 0 0)) : Calls Tryd.prog 20 #[.pointer (some ⟨K, 0, none⟩)] w fun e w' => (∃ v, e = .returned v) ∧ w = w' := by
  go_enter Tryd.func20, Tryd.ntmps20
  go_wp2_with fail
  go_loopw [2] (fun i wr => i = .int .i64 0 ∧ wr = w) (fun _ _ => 0)
  case atStart => exact ⟨rfl, rfl⟩
  case round =>
    obtain ⟨rfl, hww⟩ := hrel
    obtain rfl : w = wr := hww.symm
    go_wp2_with fail
    refine bodyPost_end (results_none rfl _ _ _) rfl ?_
    exact ⟨⟨_, rfl⟩, rfl⟩
theorem growInstr_empty (K : Nat) (w : World) (hc : w.cell? ⟨K, 5, none⟩ = some (.slice none 0 0)) : Calls Tryd.prog 28 #[.pointer (some ⟨K, 0, none⟩)] w fun e w' => (∃ v, e = .returned v) ∧ w = w' := by
  go_enter Tryd.func28, Tryd.ntmps28
  go_wp2_with fail
  go_loopw [2] (fun i wr => i = .int .i64 0 ∧ wr = w) (fun _ _ => 0)
  case atStart => exact ⟨rfl, rfl⟩
  case round =>
    obtain ⟨rfl, hww⟩ := hrel
    obtain rfl : w = wr := hww.symm
    go_wp2_with fail
    refine bodyPost_end (results_none rfl _ _ _) rfl ?_
    exact ⟨⟨_, rfl⟩, rfl⟩
theorem lookInstr_empty (K : Nat) (w : World) (hc : w.cell? ⟨K, 5, none⟩ = some (.slice none 0 0)) : Calls Tryd.prog 36 #[.pointer (some ⟨K, 0, none⟩)] w fun e w' => e = .returned (.bool true) ∧ w = w' := by
  go_enter Tryd.func36, Tryd.ntmps36
  go_wp2_with fail
  go_loopw [3] (fun i wr => i = .int .i64 0 ∧ wr = w) (fun _ _ => 0)
  case atStart => exact ⟨rfl, rfl⟩
  case round =>
    obtain ⟨rfl, hww⟩ := hrel
    obtain rfl : w = wr := hww.symm
    go_wp2_with fail
    go_ret
    exact ⟨rfl, rfl⟩
theorem fillAsk_empty (K : Nat) (w : World) (hc : w.cell? ⟨K, 6, none⟩ = some (.slice none 0 0)) : Calls Tryd.prog 21 #[.pointer (some ⟨K, 0, none⟩)] w fun e w' => (∃ v, e = .returned v) ∧ w = w' := by
  go_enter Tryd.func21, Tryd.ntmps21
  go_wp2_with fail
  go_loopw [2] (fun i wr => i = .int .i64 0 ∧ wr = w) (fun _ _ => 0)
  case atStart => exact ⟨rfl, rfl⟩
  case round =>
    obtain ⟨rfl, hww⟩ := hrel
    obtain rfl : w = wr := hww.symm
    go_wp2_with fail
    refine bodyPost_end (results_none rfl _ _ _) rfl ?_
    exact ⟨⟨_, rfl⟩, rfl⟩
theorem growAsk_empty (K : Nat) (w : World) (hc : w.cell? ⟨K, 6, none⟩ = some (.slice none 0 0)) : Calls Tryd.prog 29 #[.pointer (some ⟨K, 0, none⟩)] w fun e w' => (∃ v, e = .returned v) ∧ w = w' := by
  go_enter Tryd.func29, Tryd.ntmps29
  go_wp2_with fail
  go_loopw [2] (fun i wr => i = .int .i64 0 ∧ wr = w) (fun _ _ => 0)
  case atStart => exact ⟨rfl, rfl⟩
  case round =>
    obtain ⟨rfl, hww⟩ := hrel
    obtain rfl : w = wr := hww.symm
    go_wp2_with fail
    refine bodyPost_end (results_none rfl _ _ _) rfl ?_
    exact ⟨⟨_, rfl⟩, rfl⟩
theorem lookAsk_empty (K : Nat) (w : World) (hc : w.cell? ⟨K, 6, none⟩ = some (.slice none 0 0)) : Calls Tryd.prog 37 #[.pointer (some ⟨K, 0, none⟩)] w fun e w' => e = .returned (.bool true) ∧ w = w' := by
  go_enter Tryd.func37, Tryd.ntmps37
  go_wp2_with fail
  go_loopw [3] (fun i wr => i = .int .i64 0 ∧ wr = w) (fun _ _ => 0)
  case atStart => exact ⟨rfl, rfl⟩
  case round =>
    obtain ⟨rfl, hww⟩ := hrel
    obtain rfl : w = wr := hww.symm
    go_wp2_with fail
    go_ret
    exact ⟨rfl, rfl⟩
theorem fillTask_empty (K : Nat) (w : World) (hc : w.cell? ⟨K, 7, none⟩ = some (.slice none 0 0)) : Calls Tryd.prog 22 #[.pointer (some ⟨K, 0, none⟩)] w fun e w' => (∃ v, e = .returned v) ∧ w = w' := by
  go_enter Tryd.func22, Tryd.ntmps22
  go_wp2_with fail
  go_loopw [2] (fun i wr => i = .int .i64 0 ∧ wr = w) (fun _ _ => 0)
  case atStart => exact ⟨rfl, rfl⟩
  case round =>
    obtain ⟨rfl, hww⟩ := hrel
    obtain rfl : w = wr := hww.symm
    go_wp2_with fail
    refine bodyPost_end (results_none rfl _ _ _) rfl ?_
    exact ⟨⟨_, rfl⟩, rfl⟩
theorem growTask_empty (K : Nat) (w : World) (hc : w.cell? ⟨K, 7, none⟩ = some (.slice none 0 0)) : Calls Tryd.prog 30 #[.pointer (some ⟨K, 0, none⟩)] w fun e w' => (∃ v, e = .returned v) ∧ w = w' := by
  go_enter Tryd.func30, Tryd.ntmps30
  go_wp2_with fail
  go_loopw [2] (fun i wr => i = .int .i64 0 ∧ wr = w) (fun _ _ => 0)
  case atStart => exact ⟨rfl, rfl⟩
  case round =>
    obtain ⟨rfl, hww⟩ := hrel
    obtain rfl : w = wr := hww.symm
    go_wp2_with fail
    refine bodyPost_end (results_none rfl _ _ _) rfl ?_
    exact ⟨⟨_, rfl⟩, rfl⟩
theorem lookTask_empty (K : Nat) (w : World) (hc : w.cell? ⟨K, 7, none⟩ = some (.slice none 0 0)) : Calls Tryd.prog 38 #[.pointer (some ⟨K, 0, none⟩)] w fun e w' => e = .returned (.bool true) ∧ w = w' := by
  go_enter Tryd.func38, Tryd.ntmps38
  go_wp2_with fail
  go_loopw [3] (fun i wr => i = .int .i64 0 ∧ wr = w) (fun _ _ => 0)
  case atStart => exact ⟨rfl, rfl⟩
  case round =>
    obtain ⟨rfl, hww⟩ := hrel
    obtain rfl : w = wr := hww.symm
    go_wp2_with fail
    go_ret
    exact ⟨rfl, rfl⟩
theorem fillThing_empty (K : Nat) (w : World) (hc : w.cell? ⟨K, 8, none⟩ = some (.slice none 0 0)) : Calls Tryd.prog 23 #[.pointer (some ⟨K, 0, none⟩)] w fun e w' => (∃ v, e = .returned v) ∧ w = w' := by
  go_enter Tryd.func23, Tryd.ntmps23
  go_wp2_with fail
  go_loopw [2] (fun i wr => i = .int .i64 0 ∧ wr = w) (fun _ _ => 0)
  case atStart => exact ⟨rfl, rfl⟩
  case round =>
    obtain ⟨rfl, hww⟩ := hrel
    obtain rfl : w = wr := hww.symm
    go_wp2_with fail
    refine bodyPost_end (results_none rfl _ _ _) rfl ?_
    exact ⟨⟨_, rfl⟩, rfl⟩
theorem growThing_empty (K : Nat) (w : World) (hc : w.cell? ⟨K, 8, none⟩ = some (.slice none 0 0)) : Calls Tryd.prog 31 #[.pointer (some ⟨K, 0, none⟩)] w fun e w' => (∃ v, e = .returned v) ∧ w = w' := by
  go_enter Tryd.func31, Tryd.ntmps31
  go_wp2_with fail
  go_loopw [2] (fun i wr => i = .int .i64 0 ∧ wr = w) (fun _ _ => 0)
  case atStart => exact ⟨rfl, rfl⟩
  case round =>
    obtain ⟨rfl, hww⟩ := hrel
    obtain rfl : w = wr := hww.symm
    go_wp2_with fail
    refine bodyPost_end (results_none rfl _ _ _) rfl ?_
    exact ⟨⟨_, rfl⟩, rfl⟩
theorem lookThing_empty (K : Nat) (w : World) (hc : w.cell? ⟨K, 8, none⟩ = some (.slice none 0 0)) : Calls Tryd.prog 39 #[.pointer (some ⟨K, 0, none⟩)] w fun e w' => e = .returned (.bool true) ∧ w = w' := by
  go_enter Tryd.func39, Tryd.ntmps39
  go_wp2_with fail
  go_loopw [3] (fun i wr => i = .int .i64 0 ∧ wr = w) (fun _ _ => 0)
  case atStart => exact ⟨rfl, rfl⟩
  case round =>
    obtain ⟨rfl, hww⟩ := hrel
    obtain rfl : w = wr := hww.symm
    go_wp2_with fail
    go_ret
    exact ⟨rfl, rfl⟩
end Go.Proofs.YtigghlnnhdoabaaDoor
