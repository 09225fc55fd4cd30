/- timekeeperref04: Word and SetWord. -/
import Derived.Test.YtabkkeeedlnmnaaDoorRegRef
namespace Go.Proofs.YtabkkeeedlnmnaaDoor
open Go.RowKit Go.Shelf Tk
set_option linter.unusedVariables false
set_option linter.unusedSimpArgs false
namespace RefR
variable {w w' : World} {R m : Nat} {v : Value} {os : List Int}
theorem meas4 (k : Nat) (h : k < 4) : 4 - (intOf (.int .u32 ((k : Int) + 1))).toNat < 4 - (intOf (.int .u32 (k : Int))).toNat := by simp [intOf]; omega
theorem word_no (h : RQ w R m v os) (a : Nat) (ha : os.length < a + 4) (h32 : a < 4294967296) : Calls Tryd.prog 36 #[.pointer (some ⟨R, 0, none⟩), .int .u32 a] w fun e w' => e = .returned (.tuple #[.int .u32 0, .int .i64 4]) ∧ Post w R m v os w' := by
  obtain ⟨n, hn⟩ : ∃ n, os.length = n := ⟨_, rfl⟩
  obtain ⟨M, rfl, hc, hf, c0, h64⟩ := h.open hn
  rw [hn] at ha
  have hs := Lib.hid (h.same (grown_refl w none))
  have p1 : decide ((n : Int) < (a : Int) + 4) = true := decide_eq_true (by omega)
  have p3 : (a : Int) ≤ 4294967295 := by omega
  have p4 : (0 : Int) ≤ (a : Int) := Int.natCast_nonneg _
  clear h hn hc hf
  go_enter Tryd.func36, Tryd.ntmps36
  go_wp2_with fail
  go_ret2
  exact ⟨rfl, hs.out⟩
theorem setWord_no (h : RQ w R m v os) (a : Nat) (x : Int) (ha : os.length < a + 4) (h32 : a < 4294967296) : Calls Tryd.prog 32 #[.pointer (some ⟨R, 0, none⟩), .int .u32 a, .int .u32 x] w fun e w' => e = .returned (.int .i64 4) ∧ Post w R m v os w' := by
  obtain ⟨n, hn⟩ : ∃ n, os.length = n := ⟨_, rfl⟩
  obtain ⟨M, rfl, hc, hf, c0, h64⟩ := h.open hn
  rw [hn] at ha
  have hs := Lib.hid (h.same (grown_refl w none))
  have p1 : decide ((n : Int) < (a : Int) + 4) = true := decide_eq_true (by omega)
  have p3 : (a : Int) ≤ 4294967295 := by omega
  have p4 : (0 : Int) ≤ (a : Int) := Int.natCast_nonneg _
  clear h hn hc hf
  go_enter Tryd.func32, Tryd.ntmps32
  go_wp2_with fail
  go_ret
  exact ⟨rfl, hs.out⟩
set_option maxRecDepth 100000 in
theorem word_ok (h : RQ w R m v os) (hfit : ∀ i, i < os.length → 0 ≤ gd os i ∧ gd os i < 256) (a : Nat) (ha : a + 4 ≤ os.length) : Calls Tryd.prog 36 #[.pointer (some ⟨R, 0, none⟩), .int .u32 a] w fun e w' => e = .returned (.tuple #[.int .u32 (wd os a 4), .int .i64 0]) ∧ Post w R m v os w' := by
  have hw := Lib.hid (wd_lt (xs := os) (a := a) (n := 4) (fun i hi => hfit (a + i) (by omega)))
  obtain ⟨n, hn⟩ : ∃ n, os.length = n := ⟨_, rfl⟩
  obtain ⟨M, rfl, hc, hf, c0, h64⟩ := h.open hn
  rw [hn] at ha hfit
  have hs := Lib.hid (h.same (grown_refl w none))
  have p1 : decide ((n : Int) < (a : Int) + 4) = false := decide_eq_false (by omega)
  have p3 : (a : Int) + 4 ≤ 4096 := by omega
  have p5 : (a : Int) + 4 ≤ (n : Int) := by omega
  have p4 : (0 : Int) ≤ (a : Int) := Int.natCast_nonneg _
  replace hc := Lib.hid hc
  replace hfit := Lib.hid hfit
  clear h hn hf
  go_enter Tryd.func36, Tryd.ntmps36
  go_wp2_with fail
  go_loopw [6, 7] (fun c i wr => ∃ (k : Nat) (y : Int), k ≤ 4 ∧ i = .int .u32 k ∧ c = .int .u32 y ∧ Hid (y = wd os a k) ∧ wr = w) (fun _ i _ => 4 - (intOf i).toNat)
  case atStart => exact ⟨0, 0, Nat.zero_le _, rfl, rfl, rfl, rfl⟩
  case round =>
    obtain ⟨k, y, hk, rfl, rfl, hy, hww⟩ := hrel
    obtain rfl : w = wr := hww.symm
    by_cases hlt : k < 4
    · have q := hc.out (a + k) (by omega)
      have hfk := hfit.out (a + k) (by omega)
      have hyb : 0 ≤ y ∧ y < 16777216 := by
        have h1 := hw.out k (by omega)
        rw [← hy.out] at h1
        have h2 : (256 : Int) ^ k ≤ 16777216 := by
          rcases (by omega : k = 0 ∨ k = 1 ∨ k = 2 ∨ k = 3) with rfl | rfl | rfl | rfl <;> decide
        omega
      have hy2 : Hid (256 * y + gd os (a + k) = wd os a (k + 1)) := by show _ = wd os a k * 256 + gd os (a + k); rw [← hy.out]; omega
      obtain ⟨hy0, hy1⟩ := hyb
      obtain ⟨hf0, hf1⟩ := hfk
      have hak : ((a + k : Nat) : Int) = (a : Int) + (k : Int) := by push_cast; rfl
      have hk0 : (0 : Int) ≤ (k : Int) := Int.natCast_nonneg _
      have hk3 : (k : Int) ≤ 3 := by omega
      generalize gd os (a + k) = z at *
      clear hy
      go_wp2_with fail
      go_roundw
      case rel => exact ⟨k + 1, 256 * y + z, by omega, by go_num, by go_num, hy2, by first | rfl | trivial⟩
      case measure => exact meas4 k hlt
    · obtain rfl : k = 4 := by omega
      go_wp2_with fail
      go_ret2
      exact ⟨by rw [← hy.out]; rfl, hs.out⟩
end RefR
end Go.Proofs.YtabkkeeedlnmnaaDoor
