/- Masks: plain arithmetic of bits. -/
import Derived.Test.YtneamjaglgnmkaaGreatDoorBase
import Derived.Laws.BitsLemmas
namespace Tk.Msk
set_option linter.unusedVariables false
set_option linter.unusedSimpArgs false
open Go Go.RowKit Go.Shelf
theorem or_u32 {a b : Nat} (ha : a < 4294967296) (hb : b < 4294967296) : bits .or .u32 (a : Int) (b : Int) = ((a ||| b : Nat) : Int) :=
  (bits_nat .u32 32 (by decide) (fun n h0 h1 => by rw [IntKind.wrap_u32]; omega) a b ha hb).2
theorem and_u32 {a b : Nat} (ha : a < 4294967296) (hb : b < 4294967296) : bits .and .u32 (a : Int) (b : Int) = ((a &&& b : Nat) : Int) := by
  simp only [bits, BitVec.ofInt_natCast, BitVec.toNat_and, BitVec.toNat_ofNat]
  rw [show (2 : Nat) ^ IntKind.u32.bits = 4294967296 from rfl, Nat.mod_eq_of_lt ha, Nat.mod_eq_of_lt hb, IntKind.wrap_u32]
  have : a &&& b ≤ a := Nat.and_le_left
  omega
theorem andNot_u32 {a b : Nat} (ha : a < 4294967296) (hb : b < 4294967296) : bits .andNot .u32 (a : Int) (b : Int) = ((a &&& (4294967295 - b) : Nat) : Int) := by
  simp only [bits, BitVec.ofInt_natCast, BitVec.toNat_and, BitVec.toNat_not, BitVec.toNat_ofNat]
  rw [show (2 : Nat) ^ IntKind.u32.bits = 4294967296 from rfl, Nat.mod_eq_of_lt ha, Nat.mod_eq_of_lt hb, IntKind.wrap_u32]
  have : a &&& (4294967296 - 1 - b) ≤ a := Nat.and_le_left
  have e : 4294967296 - 1 - b = 4294967295 - b := by omega
  rw [e] at this ⊢
  omega
theorem not_bit {b : Nat} (hb : b < 4294967296) (i : Nat) : (4294967295 - b).testBit i = (decide (i < 32) && !b.testBit i) := by
  have : 4294967295 - b = 2 ^ 32 - (b + 1) := by omega
  rw [this, Nat.testBit_two_pow_sub_succ hb]
/-- Those that are wanted and there; those that stay. -/
def metN (f v : Nat) : Nat := f &&& v
def goneN (f v : Nat) : Nat := f &&& (4294967295 - v)
def holdsN (f v : Nat) (all : Bool) : Bool := if all then decide (v &&& (4294967295 - f) = 0) else decide (f &&& v ≠ 0)
def afterN (f v : Nat) (all gone : Bool) : Nat := if gone && holdsN f v all then goneN f v else f
theorem metN_lt {f v : Nat} (hf : f < 4294967296) : metN f v < 4294967296 := Nat.lt_of_le_of_lt Nat.and_le_left hf
theorem goneN_lt {f v : Nat} (hf : f < 4294967296) : goneN f v < 4294967296 := Nat.lt_of_le_of_lt Nat.and_le_left hf
theorem or_lt {f v : Nat} (hf : f < 4294967296) (hv : v < 4294967296) : f ||| v < 4294967296 := Nat.or_lt_two_pow (n := 32) hf hv
theorem afterN_lt {f v : Nat} (hf : f < 4294967296) (all gone : Bool) : afterN f v all gone < 4294967296 := by
  unfold afterN; split
  · exact goneN_lt hf
  · exact hf
/-- The sum so far. -/
def sumN (x k : Nat) : Nat := x % 2 ^ k
theorem sum_zero (x : Nat) : sumN x 0 = 0 := by unfold sumN; rw [Nat.pow_zero, Nat.mod_one]
theorem sum_all {x : Nat} (hx : x < 4294967296) : sumN x 32 = x := Nat.mod_eq_of_lt hx
theorem sum_bit {x k : Nat} (h : x.testBit k = true) : sumN x (k + 1) = sumN x k + 2 ^ k := by
  have hq : x / 2 ^ k % 2 = 1 := by simpa [Nat.testBit_eq_decide_div_mod_eq] using h
  unfold sumN; rw [Nat.pow_succ, Nat.mod_mul, hq, Nat.mul_one]
theorem sum_no {x k : Nat} (h : x.testBit k = false) : sumN x (k + 1) = sumN x k := by
  have hq : x / 2 ^ k % 2 = 0 := by
    have : ¬ x / 2 ^ k % 2 = 1 := by simpa [Nat.testBit_eq_decide_div_mod_eq] using h
    omega
  unfold sumN; rw [Nat.pow_succ, Nat.mod_mul, hq, Nat.mul_zero, Nat.add_zero]
theorem sum_lt (x k : Nat) : sumN x k < 2 ^ k := Nat.mod_lt _ (Nat.two_pow_pos k)
theorem sum_le (x k : Nat) (hk : k ≤ 32) : sumN x k < 4294967296 := Nat.lt_of_lt_of_le (sum_lt x k) (Nat.pow_le_pow_right (n := 2) (j := 32) (by decide) hk)
theorem sum_parts (f v : Nat) (hv : v < 4294967296) : ∀ k, k ≤ 32 → sumN (metN f v) k + sumN (goneN f v) k = sumN f k
  | 0, _ => by simp [sum_zero]
  | k + 1, hk => by
    have ih := sum_parts f v hv k (by omega)
    have h1 : (metN f v).testBit k = (f.testBit k && v.testBit k) := Nat.testBit_and _ _ _
    have h2 : (goneN f v).testBit k = (f.testBit k && !v.testBit k) := by unfold goneN; rw [Nat.testBit_and, not_bit hv, decide_eq_true (by omega : k < 32), Bool.true_and]
    cases hf : f.testBit k <;> cases hvb : v.testBit k <;> rw [hf, hvb] at h1 h2 <;> simp at h1 h2
    · rw [sum_no h1, sum_no h2, sum_no hf, ih]
    · rw [sum_no h1, sum_no h2, sum_no hf, ih]
    · rw [sum_no h1, sum_bit h2, sum_bit hf]; omega
    · rw [sum_bit h1, sum_no h2, sum_bit hf]; omega
theorem gone_eq (f v : Nat) (hf : f < 4294967296) (hv : v < 4294967296) : f - metN f v = goneN f v := by
  have h := sum_parts f v hv 32 (Nat.le_refl _)
  rw [sum_all (metN_lt hf), sum_all (goneN_lt hf), sum_all hf] at h
  omega
theorem holds_some {f v i : Nat} (hf : f < 4294967296) (all : Bool) (hi : i < 32) (h1 : v.testBit i = true) (h2 : f.testBit i ≠ all) : holdsN f v all = !all := by
  unfold holdsN
  cases all
  · have h2 : f.testBit i = true := by simpa using h2
    simp only [Bool.false_eq_true, if_false, Bool.not_false, decide_eq_true_eq, ne_eq]
    intro h
    have := congrArg (Nat.testBit · i) h
    simp [Nat.testBit_and, h1, h2] at this
  · have h2 : f.testBit i = false := by simpa using h2
    simp only [if_true, Bool.not_true, decide_eq_false_iff_not]
    intro h
    have := congrArg (Nat.testBit · i) h
    simp [Nat.testBit_and, h1, not_bit hf, h2, hi] at this
theorem holds_all {f v : Nat} (hf : f < 4294967296) (hv : v < 4294967296) (all : Bool) (h : ∀ i, i < 32 → v.testBit i = true → f.testBit i = all) : holdsN f v all = all := by
  have hh : ∀ {x i : Nat}, x < 4294967296 → ¬ i < 32 → x.testBit i = false := fun hx hi => Nat.testBit_lt_two_pow (Nat.lt_of_lt_of_le hx (Nat.pow_le_pow_right (n := 2) (i := 32) (by decide) (by omega)))
  unfold holdsN
  cases all
  · simp only [Bool.false_eq_true, if_false, decide_eq_false_iff_not, ne_eq, Decidable.not_not]
    apply Nat.eq_of_testBit_eq
    intro i
    rw [Nat.testBit_and, Nat.zero_testBit]
    by_cases hi : i < 32
    · cases hvi : v.testBit i
      · simp
      · simp [h i hi hvi]
    · simp [hh hf hi]
  · simp only [if_true, decide_eq_true_eq]
    apply Nat.eq_of_testBit_eq
    intro i
    rw [Nat.testBit_and, Nat.zero_testBit, not_bit hf]
    by_cases hi : i < 32
    · cases hvi : v.testBit i
      · simp
      · simp [h i hi hvi]
    · simp [hi]
/-- Halved so often. -/
def halfN (a k : Nat) : Nat := a / 2 ^ k
theorem half_zero (a : Nat) : halfN a 0 = a := by simp [halfN]
theorem half_succ (a k : Nat) : halfN a (k + 1) = halfN a k / 2 := by unfold halfN; rw [Nat.pow_succ, Nat.div_div_eq_div_mul]
theorem half_bit (a k : Nat) : decide (halfN a k % 2 = 1) = a.testBit k := by unfold halfN; rw [Nat.testBit_eq_decide_div_mod_eq]
theorem half_le (a k : Nat) : halfN a k ≤ a := Nat.div_le_self _ _
/-- A power, under a name. -/
def pw (k : Nat) : Nat := 2 ^ k
theorem pw_zero : pw 0 = 1 := rfl
theorem pw_succ (k : Nat) : pw (k + 1) = 2 * pw k := by unfold pw; rw [Nat.pow_succ, Nat.mul_comm]
theorem pw_le {k : Nat} (hk : k ≤ 31) : pw k ≤ 2147483648 := Nat.pow_le_pow_right (n := 2) (j := 31) (by decide) hk
end Tk.Msk
