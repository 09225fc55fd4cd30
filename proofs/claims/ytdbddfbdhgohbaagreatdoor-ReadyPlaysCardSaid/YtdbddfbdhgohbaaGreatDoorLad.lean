/- What the functions of package ladders (and the statements' small helpers) do, said of numbers and lists. -/
import Derived.Test.YtdbddfbdhgohbaaGreatDoorRows
import Derived.Test.YtdbddfbdhgohbaaGreatDoorBase
import Derived.Test.YtdbddfbdhgohbaaGreatDoorLadM
import Derived.Test.YtdbddfbdhgohbaaGreatDoorShelf
namespace Go.Proofs.YtdbddfbdhgohbaaGreatDoor
open Go.RowKit Go.Shelf Tk Tk.Lad
set_option linter.unusedVariables false
set_option linter.unusedSimpArgs false
attribute [local go_sem] Oper.semAt_some

theorem or_u32 {a b : Nat} (ha : a < 4294967296) (hb : b < 4294967296) : bits .or .u32 (a : Int) (b : Int) = ((a ||| b : Nat) : Int) :=
  (bits_nat .u32 32 (by decide) (fun n h0 h1 => by rw [IntKind.wrap_u32]; omega) a b ha hb).2
theorem andNot_u32 {a b : Nat} (ha : a < 4294967296) (hb : b < 4294967296) : bits .andNot .u32 (a : Int) (b : Int) = ((a &&& (4294967295 - b) : Nat) : Int) := by
  simp only [bits, BitVec.ofInt_natCast, BitVec.toNat_and, BitVec.toNat_not, BitVec.toNat_ofNat]
  rw [show (2 : Nat) ^ IntKind.u32.bits = 4294967296 from rfl, Nat.mod_eq_of_lt ha, Nat.mod_eq_of_lt hb, IntKind.wrap_u32]
  have : a &&& (4294967296 - 1 - b) ≤ a := Nat.and_le_left
  have e : 4294967296 - 1 - b = 4294967295 - b := by omega
  rw [e] at this ⊢
  omega
def stepN (r : Int) : Nat := if 0 ≤ r ∧ r ≤ 31 then 2 ^ r.toNat else 0
theorem stepN_lt (r : Int) : stepN r < 4294967296 := by
  unfold stepN; split
  · exact Nat.lt_of_lt_of_le (Nat.pow_lt_pow_right (by decide) (by omega : r.toNat < 32)) (by decide)
  · decide
theorem set_bits {l : Nat} (hl : l < 4294967296) (r : Int) : bits .or .u32 (l : Int) (stepN r : Int) = (setN l r : Int) := by
  rw [or_u32 hl (stepN_lt r)]
  unfold stepN setN
  split <;> simp
theorem clr_bits {l : Nat} (hl : l < 4294967296) (r : Int) : bits .andNot .u32 (l : Int) (stepN r : Int) = (clrN l r : Int) := by
  rw [andNot_u32 hl (stepN_lt r)]
  congr 1
  refine Tk.Lad.ext (Nat.lt_of_le_of_lt Nat.and_le_left hl) (clr_lt hl r) fun i hi => ?_
  rw [Nat.testBit_and, testBit_clr]
  congr 1
  have hs := stepN_lt r
  have : 4294967295 - stepN r = 2 ^ 32 - (stepN r + 1) := by omega
  rw [this, Nat.testBit_two_pow_sub_succ hs]
  simp only [hi, decide_true, Bool.true_and]
  unfold stepN
  split
  · rename_i h
    rw [Nat.testBit_two_pow]
    by_cases e : r.toNat = i
    · subst e; simp [h]
    · have : ¬ i = r.toNat := fun x => e x.symm
      simp [e, this]
  · rename_i h; simp [h]

set_option maxHeartbeats 400000 in
theorem step_any (r : Int) (w : World) :
    Calls Tryz.prog 91 #[.int .i64 r] w fun e w' => e = .returned (.int .u32 (stepN r)) ∧ w = w' := by
  by_cases h1 : r < 0
  · go_enter Tryz.func91, Tryz.ntmps91
    go_wp2
    go_ret
    exact ⟨by have : ¬ (0 ≤ r ∧ r ≤ 31) := by omega
              simp [stepN, this], rfl⟩
  · by_cases h2 : 31 < r
    · go_enter Tryz.func91, Tryz.ntmps91
      go_wp2
      go_ret
      exact ⟨by have : ¬ (0 ≤ r ∧ r ≤ 31) := by omega
                simp [stepN, this], rfl⟩
    · have h3 : 0 ≤ r := by omega
      have hp : 2 ^ r.toNat < 4294967296 := Nat.lt_of_lt_of_le (Nat.pow_lt_pow_right (a := 2) (by decide) (by omega : r.toNat < 32)) (by decide)
      have HP : Hid (((2 : Int) ^ r.toNat % 4294967296) = (stepN r : Int)) := by
        have e : stepN r = 2 ^ r.toNat := by unfold stepN; rw [if_pos ⟨h3, by omega⟩]
        have c : ((2 : Int) ^ r.toNat) = ((2 ^ r.toNat : Nat) : Int) := by simp
        show _ = _
        rw [e, c, Int.emod_eq_of_lt (by omega) (by omega)]
      clear hp
      go_enter Tryz.func91, Tryz.ntmps91
      go_wp2
      go_ret
      exact ⟨by rw [← HP.out]; rfl, rfl⟩

set_option maxHeartbeats 400000 in
theorem clear_any (l : Nat) (hl : l < 4294967296) (r : Int) (w : World) :
    Calls Tryz.prog 62 #[.int .u32 l, .int .i64 r] w fun e w' => e = .returned (.int .u32 (clrN l r)) ∧ w = w' := by
  have HS : Hid (bits .andNot .u32 (l : Int) (stepN r : Int) = (clrN l r : Int)) := clr_bits hl r
  go_enter Tryz.func62, Tryz.ntmps62
  go_wp2_with (go_at_call 91; refine (step_any _ _).mono ?_; rintro e w' ⟨rfl, rfl⟩)
  go_ret
  exact ⟨by rw [← HS.out]; rfl, rfl⟩

theorem bitLen_log2 : ∀ (f x : Nat), x < 2 ^ f → Lib.bitLenAux f x = if x = 0 then 0 else x.log2 + 1
  | 0, x, h => by have : x = 0 := by omega
                  subst this; rfl
  | f + 1, x, h => by
    unfold Lib.bitLenAux
    by_cases h0 : x = 0
    · simp [h0]
    · simp only [h0, if_false]
      rw [bitLen_log2 f (x / 2) (by rw [Nat.pow_succ] at h; omega), Nat.log2_def x]
      by_cases h2 : 2 ≤ x
      · rw [if_neg (by omega), if_pos h2]; omega
      · rw [if_pos (by omega), if_neg h2]

theorem len32_zero (w : World) : Calls Tryz.prog 65 #[.int .u32 0] w fun e w' => e = .returned (.int .i64 0) ∧ w = w' :=
  (Tryz.bits_Len32 0 w (by omega) (by omega)).mono fun e w' ⟨he, hw⟩ => ⟨he, hw.symm⟩
theorem len32_pos (l : Nat) (h0 : l ≠ 0) (hl : l < 4294967296) (w : World) :
    Calls Tryz.prog 65 #[.int .u32 l] w fun e w' => e = .returned (.int .i64 (l.log2 + 1)) ∧ w = w' :=
  (Tryz.bits_Len32 l w (by omega) (by omega)).mono fun e w' ⟨he, hw⟩ => ⟨by
    have hb := bitLen_log2 64 l (by omega)
    rw [he, Int.toNat_natCast, Lib.bitLen, hb, if_neg h0]; simp, hw.symm⟩

set_option maxHeartbeats 400000 in
theorem first_zero (w : World) :
    Calls Tryz.prog 28 #[.int .u32 0] w fun e w' => e = .returned (.tuple #[.int .i64 0, .bool false]) ∧ w = w' := by
  go_enter Tryz.func28, Tryz.ntmps28
  go_wp2_with (go_at_call 65; refine (len32_zero _).mono ?_; rintro e w' ⟨rfl, rfl⟩)
  go_ret2
  exact ⟨rfl, rfl⟩
set_option maxHeartbeats 400000 in
theorem first_pos (l : Nat) (h0 : l ≠ 0) (hl : l < 4294967296) (w : World) :
    Calls Tryz.prog 28 #[.int .u32 l] w fun e w' => e = .returned (.tuple #[.int .i64 l.log2, .bool true]) ∧ w = w' := by
  have hg := top_lt h0 hl
  have hne : ((l : Int) != 0) = true := by simp [h0]
  go_enter Tryz.func28, Tryz.ntmps28
  go_wp2_with (go_at_call 65; refine (len32_pos l h0 hl _).mono ?_; rintro e w' ⟨rfl, rfl⟩)
  go_ret2
  exact ⟨rfl, rfl⟩
end Go.Proofs.YtdbddfbdhgohbaaGreatDoor
