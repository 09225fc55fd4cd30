/- Masks: what the functions of package masks, and of its reference, do. -/
import Derived.Test.YtneamjaglgnmkaaGreatDoorRows
import Derived.Test.YtneamjaglgnmkaaGreatDoorObM
namespace Go.Proofs.YtneamjaglgnmkaaGreatDoor
open Go.RowKit Go.Shelf Tk Tk.Msk
set_option linter.unusedVariables false
set_option linter.unusedSimpArgs false
theorem meas_m (n k : Nat) (h : k < n) : n - (intOf (.int .i64 ((k : Int) + 1))).toNat < n - (intOf (.int .i64 (k : Int))).toNat := by simp [intOf]; omega
theorem meas_d (k : Nat) (h : 0 < k) : (intOf (.int .i64 ((k - 1 : Nat) : Int))).toNat < (intOf (.int .i64 (k : Int))).toNat := by simp [intOf]; omega
theorem tdiv_half (a k : Nat) : ((halfN a k : Nat) : Int).tdiv 2 = ((halfN a (k + 1) : Nat) : Int) := by rw [half_succ]; rfl
theorem tmod_half (a k : Nat) : ((((halfN a k : Nat) : Int).tmod 2) == 1) = a.testBit k := by
  have h : ((halfN a k : Nat) : Int).tmod 2 = ((halfN a k % 2 : Nat) : Int) := rfl
  rw [h, ← half_bit]
  by_cases e : halfN a k % 2 = 1
  · rw [e]; rfl
  · have : halfN a k % 2 = 0 := by omega
    rw [this]; rfl
set_option maxRecDepth 100000 in
set_option maxHeartbeats 2000000 in
theorem one_ok (a k : Nat) (ha : a < 4294967296) (hk : k ≤ 31) (w : World) :
    Calls Tryz.prog 82 #[.int .u32 a, .int .i64 k] w fun e w' => e = .returned (.bool (a.testBit k)) ∧ w = w' := by
  have hz := Lib.hid (tdiv_half a)
  have hm := Lib.hid (tmod_half a k)
  have hl := Lib.hid (half_le a)
  go_enter Tryz.func82, Tryz.ntmps82
  go_wp2_with fail
  go_loopw [0, 1] (fun x i wr => ∃ j y : Nat, j ≤ k ∧ i = .int .i64 j ∧ x = .int .u32 y ∧ Hid (y = halfN a (k - j)) ∧ wr = w) (fun _ i _ => (intOf i).toNat)
  case atStart => exact ⟨k, a, Nat.le_refl _, rfl, rfl, by show _ = _; rw [Nat.sub_self, half_zero], rfl⟩
  case round =>
    obtain ⟨j, y, hj, rfl, rfl, hy, hww⟩ := hrel
    obtain rfl : w = wr := hww.symm
    have hya : y < 4294967296 := by have := hl.out (k - j); rw [hy.out]; omega
    by_cases h0 : 0 < j
    · obtain ⟨y2, hy2⟩ : ∃ y2, halfN a (k - (j - 1)) = y2 := ⟨_, rfl⟩
      have hq : (y : Int).tdiv 2 = (y2 : Int) := by
        rw [hy.out, hz.out, show k - j + 1 = k - (j - 1) by omega, hy2]
      have hya2 : y2 < 4294967296 := by have := hl.out (k - (j - 1)); omega
      have hwr : IntKind.u32.wrap (y2 : Int) = y2 := by rw [IntKind.wrap_u32]; omega
      have h1 : (0 : Int) < (j : Int) := by omega
      have hjj : ((j : Int) - 1) = ((j - 1 : Nat) : Int) := by omega
      replace hy2 := Lib.hid hy2
      go_wp2_with fail
      go_roundw
      case rel => exact ⟨j - 1, y2, by omega, by rw [← hjj], rfl, hy2.out.symm, by first | rfl | trivial⟩
      case measure => exact meas_d j h0
    · obtain rfl : j = 0 := by omega
      have hm2 : Hid (((y : Int) % 2 == 1) = a.testBit k) := by
        show _ = _
        rw [← hm.out, ← Nat.sub_zero k, ← hy.out, Int.tmod_eq_emod_of_nonneg (Int.natCast_nonneg _)]
      go_wp2_with fail
      go_ret
      exact ⟨by show Ending.returned (.bool ((y : Int) % 2 == 1)) = _; rw [hm2.out], rfl⟩
set_option maxRecDepth 100000 in
set_option maxHeartbeats 2000000 in
theorem power_ok (k : Nat) (hk : k ≤ 31) (w : World) :
    Calls Tryz.prog 83 #[.int .i64 k] w fun e w' => e = .returned (.int .u32 (pw k)) ∧ w = w' := by
  have hp := Lib.hid (fun j (h : j ≤ 31) => pw_le h)
  go_enter Tryz.func83, Tryz.ntmps83
  go_wp2_with fail
  go_loopw [0, 3] (fun i x wr => ∃ j y : Nat, j ≤ k ∧ i = .int .i64 j ∧ x = .int .u32 y ∧ Hid (y = pw (k - j)) ∧ wr = w) (fun i _ _ => (intOf i).toNat)
  case atStart => exact ⟨k, 1, Nat.le_refl _, rfl, rfl, by show _ = _; rw [Nat.sub_self, pw_zero], rfl⟩
  case round =>
    obtain ⟨j, y, hj, rfl, rfl, hy, hww⟩ := hrel
    obtain rfl : w = wr := hww.symm
    by_cases h0 : 0 < j
    · have hy2 : Hid (2 * y = pw (k - (j - 1))) := by
        show _ = _
        rw [hy.out, show k - (j - 1) = (k - j) + 1 by omega, pw_succ]
      have hya2 : 2 * y ≤ 2147483648 := by rw [hy2.out]; exact hp.out _ (by omega)
      have h1 : (0 : Int) < (j : Int) := by omega
      have hjj : ((j : Int) - 1) = ((j - 1 : Nat) : Int) := by omega
      obtain ⟨Z, hZ⟩ : ∃ Z, 2 * y = Z := ⟨_, rfl⟩
      have hyy : (2 * (y : Int)) = (Z : Int) := by omega
      rw [hZ] at hy2 hya2
      have hwr : IntKind.u32.wrap (Z : Int) = Z := by rw [IntKind.wrap_u32]; omega
      replace hZ := Lib.hid hZ
      go_wp2_with fail
      go_roundw
      case rel => exact ⟨j - 1, Z, by omega, by rw [← hjj], rfl, hy2, by first | rfl | trivial⟩
      case measure => exact meas_d j h0
    · obtain rfl : j = 0 := by omega
      have hy2 : Hid (y = pw k) := hy
      go_wp2_with fail
      go_ret
      exact ⟨by rw [← hy2.out]; rfl, rfl⟩
set_option maxRecDepth 100000 in
set_option maxHeartbeats 2000000 in
theorem met_ok (f v : Nat) (hf : f < 4294967296) (hv : v < 4294967296) (w : World) :
    Calls Tryz.prog 55 #[.int .u32 f, .int .u32 v] w fun e w' => e = .returned (.int .u32 (metN f v)) ∧ w = w' := by
  have ho := Lib.hid (fun a (h : a < 4294967296) (k : Nat) (hk : k ≤ 31) => one_ok a k h hk w)
  have hp := Lib.hid (fun (k : Nat) (hk : k ≤ 31) => power_ok k hk w)
  have hb : ∀ k, (metN f v).testBit k = (f.testBit k && v.testBit k) := fun k => Nat.testBit_and _ _ _
  have hs1 := Lib.hid (fun k => @sum_bit (metN f v) k)
  have hs2 := Lib.hid (fun k => @sum_no (metN f v) k)
  have hsl := Lib.hid (sum_le (metN f v))
  have hsa := Lib.hid (sum_all (metN_lt (f := f) (v := v) hf))
  replace hb := Lib.hid hb
  go_enter Tryz.func55, Tryz.ntmps55
  go_wp2_with fail
  go_loopw [5, 6] (fun x i wr => ∃ k y : Nat, k ≤ 32 ∧ i = .int .i64 k ∧ x = .int .u32 y ∧ Hid (y = sumN (metN f v) k) ∧ wr = w) (fun _ i _ => 32 - (intOf i).toNat)
  case atStart => exact ⟨0, 0, by omega, rfl, rfl, by show _ = _; rw [sum_zero], rfl⟩
  case round =>
    obtain ⟨k, y, hk, rfl, rfl, hy, hww⟩ := hrel
    obtain rfl : w = wr := hww.symm
    by_cases hlt : k < 32
    · have h31 : k ≤ 31 := by omega
      have hbk := hb.out k
      have q1 := Lib.hid (ho.out f hf k h31)
      have q2 := Lib.hid (ho.out v hv k h31)
      have hltI : (k : Int) < 32 := by omega
      cases e1 : f.testBit k
      · have hy2 : Hid (y = sumN (metN f v) (k + 1)) := by show _ = _; rw [hs2.out k (by rw [hbk, e1]; rfl)]; exact hy.out
        rw [e1] at q1
        clear hbk e1
        go_wp2_with (first | (go_at_call 82; refine q1.out.mono ?_; rintro e w7 ⟨rfl, rfl⟩))
        go_roundw
        case rel => exact ⟨k + 1, y, by omega, by go_num, rfl, hy2, by first | rfl | trivial⟩
        case measure => exact meas_m 32 k hlt
      · cases e2 : v.testBit k
        · have hy2 : Hid (y = sumN (metN f v) (k + 1)) := by show _ = _; rw [hs2.out k (by rw [hbk, e1, e2]; rfl)]; exact hy.out
          rw [e1] at q1
          rw [e2] at q2
          clear hbk e1 e2
          go_wp2_with fail
          refine q1.out.mono ?_; rintro e w7 ⟨rfl, rfl⟩
          go_wp2_with fail
          refine q2.out.mono ?_; rintro e w7 ⟨rfl, rfl⟩
          go_wp2_with fail
          go_roundw
          case rel => exact ⟨k + 1, y, by omega, by go_num, rfl, hy2, by first | rfl | trivial⟩
          case measure => exact meas_m 32 k hlt
        · have hy2 : Hid (y + pw k = sumN (metN f v) (k + 1)) := by show _ = _; rw [hs1.out k (by rw [hbk, e1, e2]; rfl), ← hy.out]; rfl
          have hy3 : y + pw k < 4294967296 := by rw [hy2.out]; exact hsl.out _ (by omega)
          rw [e1] at q1
          rw [e2] at q2
          have q3 := Lib.hid (hp.out k h31)
          generalize pw k = P at *
          obtain ⟨Z, hZ⟩ : ∃ Z, y + P = Z := ⟨_, rfl⟩
          have hyy : ((y : Int) + (P : Int)) = (Z : Int) := by omega
          rw [hZ] at hy2 hy3
          have hwr : IntKind.u32.wrap (Z : Int) = Z := by rw [IntKind.wrap_u32]; omega
          replace hZ := Lib.hid hZ
          clear hbk e1 e2
          go_wp2_with fail
          refine q1.out.mono ?_; rintro e w7 ⟨rfl, rfl⟩
          go_wp2_with fail
          refine q2.out.mono ?_; rintro e w7 ⟨rfl, rfl⟩
          go_wp2_with fail
          refine q3.out.mono ?_; rintro e w7 ⟨rfl, rfl⟩
          go_wp2_with fail
          go_roundw
          case rel => exact ⟨k + 1, Z, by omega, by go_num, rfl, hy2, by first | rfl | trivial⟩
          case measure => exact meas_m 32 k hlt
    · obtain rfl : k = 32 := by omega
      have hy2 : Hid (y = metN f v) := by show _ = _; rw [hy.out, hsa.out]
      go_wp2_with fail
      go_ret
      exact ⟨by rw [← hy2.out]; rfl, rfl⟩
set_option maxRecDepth 100000 in
set_option maxHeartbeats 2000000 in
theorem holds_ok (f v : Nat) (all : Bool) (hf : f < 4294967296) (hv : v < 4294967296) (w : World) :
    Calls Tryz.prog 54 #[.int .u32 f, .int .u32 v, .bool all] w fun e w' => e = .returned (.bool (holdsN f v all)) ∧ w = w' := by
  have ho := Lib.hid (fun a (h : a < 4294967296) (k : Nat) (hk : k ≤ 31) => one_ok a k h hk w)
  have hsome := Lib.hid (fun i => @holds_some f v i hf all)
  have hall := Lib.hid (holds_all hf hv all)
  go_enter Tryz.func54, Tryz.ntmps54
  go_wp2_with fail
  go_loopw [7] (fun i wr => ∃ k : Nat, k ≤ 32 ∧ i = .int .i64 k ∧ Hid (∀ i, i < k → v.testBit i = true → f.testBit i = all) ∧ wr = w) (fun i _ => 32 - (intOf i).toNat)
  case atStart => exact ⟨0, by omega, rfl, fun i hi => absurd hi (Nat.not_lt_zero _), rfl⟩
  case round =>
    obtain ⟨k, hk, rfl, hno, hww⟩ := hrel
    obtain rfl : w = wr := hww.symm
    by_cases hlt : k < 32
    · have h31 : k ≤ 31 := by omega
      have q1 := Lib.hid (ho.out f hf k h31)
      have q2 := Lib.hid (ho.out v hv k h31)
      have hltI : (k : Int) < 32 := by omega
      cases e2 : v.testBit k
      · have hno2 : Hid (∀ i, i < k + 1 → v.testBit i = true → f.testBit i = all) := fun i hi hvi => by
          by_cases e : i = k
          · subst e; rw [e2] at hvi; cases hvi
          · exact hno.out i (by omega) hvi
        rw [e2] at q2
        clear e2
        go_wp2_with (first | (go_at_call 82; refine q2.out.mono ?_; rintro e w7 ⟨rfl, rfl⟩))
        go_roundw
        case rel => exact ⟨k + 1, by omega, by go_num, hno2, by first | rfl | trivial⟩
        case measure => exact meas_m 32 k hlt
      · by_cases e1 : f.testBit k = all
        · have hno2 : Hid (∀ i, i < k + 1 → v.testBit i = true → f.testBit i = all) := fun i hi hvi => by
            by_cases e : i = k
            · subst e; exact e1
            · exact hno.out i (by omega) hvi
          rw [e2] at q2
          rw [e1] at q1
          clear e1 e2
          go_wp2_with fail
          refine q2.out.mono ?_; rintro e w7 ⟨rfl, rfl⟩
          go_wp2_with fail
          refine q1.out.mono ?_; rintro e w7 ⟨rfl, rfl⟩
          go_wp2_with fail
          go_roundw
          case rel => exact ⟨k + 1, by omega, by go_num, hno2, by first | rfl | trivial⟩
          case measure => exact meas_m 32 k hlt
        · have hans := Lib.hid (hsome.out k hlt e2 e1)
          have e3 : f.testBit k = !all := by cases hb : f.testBit k <;> cases all <;> simp_all
          rw [e2] at q2
          rw [e3] at q1
          clear e1 e2 e3 hsome hall hno
          cases all
          all_goals
            simp only [Bool.not_true, Bool.not_false] at q1 hans
            go_wp2_with fail
            refine q2.out.mono ?_; rintro e w7 ⟨rfl, rfl⟩
            go_wp2_with fail
            refine q1.out.mono ?_; rintro e w7 ⟨rfl, rfl⟩
            go_wp2_with fail
            go_ret
            exact ⟨by rw [hans.out]; rfl, rfl⟩
    · obtain rfl : k = 32 := by omega
      have hans := Lib.hid (hall.out hno.out)
      go_wp2_with fail
      go_ret
      exact ⟨by rw [hans.out]; rfl, rfl⟩
set_option maxRecDepth 100000 in
set_option maxHeartbeats 2000000 in
theorem after_ok (f v : Nat) (all gone : Bool) (hf : f < 4294967296) (hv : v < 4294967296) (w : World) :
    Calls Tryz.prog 56 #[.int .u32 f, .int .u32 v, .bool all, .bool gone] w fun e w' => e = .returned (.int .u32 (afterN f v all gone)) ∧ w = w' := by
  have hh := holds_ok f v all hf hv w
  have hm := Lib.hid (met_ok f v hf hv w)
  have hg := gone_eq f v hf hv
  have hml : metN f v ≤ f := Nat.and_le_left
  have ha : afterN f v all gone = if gone && holdsN f v all then f - metN f v else f := by unfold afterN; rw [hg]
  rw [ha]
  clear ha hg
  generalize holdsN f v all = hb at *
  replace hh := Lib.hid hh
  generalize metN f v = M at *
  have hwr : IntKind.u32.wrap ((f : Int) - (M : Int)) = f - M := by rw [IntKind.wrap_u32]; omega
  have hff : ((f : Int) - (M : Int)) = ((f - M : Nat) : Int) := by omega
  cases gone
  · go_enter Tryz.func56, Tryz.ntmps56
    go_wp2_with fail
    go_ret
    exact ⟨rfl, rfl⟩
  · cases hb
    all_goals
      go_enter Tryz.func56, Tryz.ntmps56
      go_wp2_with (first | (go_at_call 54; refine hh.out.mono ?_; rintro e w7 ⟨rfl, rfl⟩) | (go_at_call 55; refine hm.out.mono ?_; rintro e w7 ⟨rfl, rfl⟩))
      go_ret
      exact ⟨by first | rfl | (rw [hff]; rfl), rfl⟩
end Go.Proofs.YtneamjaglgnmkaaGreatDoor
