/- LaddersSets: what ladders and the reference answer is one number. -/
import Derived.Test.YtpklpfpngjlokaaLadH
namespace Go.Proofs.Ytpklpfpngjlokaa
open Go.RowKit Go.Shelf Tk Tk.Lad
set_option linter.unusedVariables false
set_option linter.unusedSimpArgs false

def p2 (n : Nat) : Nat := 2 ^ n
theorem half_testBit (l k : Nat) : decide (l / 2 ^ k % 2 = 1) = l.testBit k := by rw [Nat.testBit_eq_decide_div_mod_eq]
set_option maxHeartbeats 1000000 in
theorem refHas_any (l : Nat) (hl : l < 4294967296) (r : Int) (h0 : 0 ≤ r) (h1 : r ≤ 31) (w : World) :
    Calls Try.prog 19 #[.int .u32 l, .int .i64 r] w fun e w' => e = .returned (.bool (l.testBit r.toNat)) ∧ w = w' := by
  obtain ⟨n, rfl⟩ := Int.eq_ofNat_of_zero_le h0
  go_enter Try.func19, Try.ntmps19
  go_wp2
  go_loop [0, 5] (fun x i => ∃ k m : Nat, k ≤ n ∧ i = .int .i64 k ∧ x = .int .u32 m ∧ m < 4294967296 ∧ Hid (m = l / 2 ^ k)) (fun _ i => n - (intOf i).toNat)
  case atStart => exact ⟨0, l, Nat.zero_le _, rfl, rfl, hl, by show _ = _; simp⟩
  case round =>
    obtain ⟨k, m, hk, rfl, rfl, hm, he⟩ := hrel
    by_cases hlt : k < n
    · go_wp2
      go_round
      case rel => exact ⟨k + 1, m / 2, by omega, by go_num, by go_num, by omega, by show _ = _; rw [he.out, Nat.div_div_eq_div_mul, Nat.pow_succ]⟩
      case measure => simp [intOf]; omega
    · obtain ⟨b, hb⟩ : ∃ b, ((m : Int) % 2 == 1) = b := ⟨_, rfl⟩
      have hb2 : Hid (b = l.testBit n) := by
        obtain rfl : k = n := by omega
        have := half_testBit l k
        rw [← he.out] at this
        show _ = _
        rw [← hb, ← this, Bool.eq_iff_iff]
        simp; omega
      go_wp2
      go_ret
      exact ⟨by simp only [Int.toNat_natCast]; rw [← hb2.out]; rfl, rfl⟩
set_option maxHeartbeats 1000000 in
theorem power_any (r : Int) (h0 : 0 ≤ r) (h1 : r ≤ 31) (w : World) :
    Calls Try.prog 20 #[.int .i64 r] w fun e w' => e = .returned (.int .u32 (p2 r.toNat)) ∧ w = w' := by
  obtain ⟨n, rfl⟩ := Int.eq_ofNat_of_zero_le h0
  go_enter Try.func20, Try.ntmps20
  go_wp2
  go_loop [3, 4] (fun x i => ∃ k m : Nat, k ≤ n ∧ i = .int .i64 k ∧ x = .int .u32 m ∧ m < 4294967296 ∧ Hid (m = p2 k)) (fun _ i => n - (intOf i).toNat)
  case atStart => exact ⟨0, 1, Nat.zero_le _, rfl, rfl, by omega, rfl⟩
  case round =>
    obtain ⟨k, m, hk, rfl, rfl, hm, he⟩ := hrel
    by_cases hlt : k < n
    · have hm2 : 2 * m < 4294967296 := by
        have h2 : 2 ^ (k + 1) < 2 ^ 32 := Nat.pow_lt_pow_right (by decide) (by omega)
        have h3 : m = 2 ^ k := he.out
        rw [Nat.pow_succ, ← h3] at h2; omega
      go_wp2
      go_round
      case rel => exact ⟨k + 1, 2 * m, by omega, by go_num, by go_num, hm2, by show _ = _; rw [he.out]; unfold p2; rw [Nat.pow_succ, Nat.mul_comm]⟩
      case measure => simp [intOf]; omega
    · have he2 : Hid (m = p2 n) := by
        obtain rfl : k = n := by omega
        exact he
      go_wp2
      go_ret
      exact ⟨by simp only [Int.toNat_natCast]; rw [← he2.out]; rfl, rfl⟩
theorem no_rank {r : Int} (h : ¬ (0 ≤ r ∧ r ≤ 31)) (l : Nat) : setN l r = l ∧ clrN l r = l := by simp [setN, clrN, h]
set_option maxHeartbeats 1000000 in
theorem refSet_any (l : Nat) (hl : l < 4294967296) (r : Int) (w : World) :
    Calls Try.prog 11 #[.int .u32 l, .int .i64 r] w fun e w' => e = .returned (.int .u32 (setN l r)) ∧ w = w' := by
  by_cases h0 : 0 ≤ r
  · by_cases h1 : r ≤ 31
    · cases hb : l.testBit r.toNat with
      | true =>
        have he : Hid (setN l r = l) := Tk.Lad.ext (set_lt hl r) hl fun i _ => by
          rw [testBit_set]
          by_cases e : i = r.toNat
          · subst e; simp [hb]
          · simp [e]
        have hb' := Lib.hid hb
        clear hb
        go_enter Try.func11, Try.ntmps11
        go_wp2_with fail
        refine (refHas_any l hl r h0 h1 _).mono ?_; rw [hb'.out]; rintro e w' ⟨rfl, rfl⟩
        go_wp2_with fail
        go_ret
        exact ⟨by rw [he.out]; rfl, rfl⟩
      | false =>
        have hs := set_lt hl r
        have he : Hid (setN l r = l + p2 r.toNat) := by
          show _ = _
          unfold p2
          unfold setN
          rw [if_pos ⟨h0, h1⟩]
          generalize r.toNat = k at hb
          have hd : (l ||| 2 ^ k).testBit k = true := by simp [Nat.testBit_or]
          have h3 := testBit_sub hd
          have h4 : (l ||| 2 ^ k) - 2 ^ k = l := by
            apply Nat.eq_of_testBit_eq
            intro i
            rw [h3, Nat.testBit_or, Nat.testBit_two_pow]
            by_cases e : k = i
            · subst e; simp [hb]
            · have : ¬ i = k := fun x => e x.symm
              simp [e, this]
          have h5 := Nat.ge_two_pow_of_testBit hd
          omega
        have hp : l + p2 r.toNat < 4294967296 := by rw [← he.out]; exact hs
        have hb' := Lib.hid hb
        clear hb
        go_enter Try.func11, Try.ntmps11
        go_wp2_with fail
        refine (refHas_any l hl r h0 h1 _).mono ?_; rw [hb'.out]; rintro e w' ⟨rfl, rfl⟩
        go_wp2_with fail
        refine (power_any r h0 h1 _).mono ?_; generalize p2 r.toNat = p at *; rintro e w' ⟨rfl, rfl⟩
        go_wp2_with fail
        go_ret
        exact ⟨by rw [he.out]; simp, rfl⟩
    · have he := Lib.hid (no_rank (r := r) (by omega) l).1
      go_enter Try.func11, Try.ntmps11
      go_wp2_with fail
      go_ret
      exact ⟨by rw [he.out]; rfl, rfl⟩
  · have he := Lib.hid (no_rank (r := r) (by omega) l).1
    go_enter Try.func11, Try.ntmps11
    go_wp2_with fail
    go_ret
    exact ⟨by rw [he.out]; rfl, rfl⟩
set_option maxHeartbeats 1000000 in
theorem refClear_any (l : Nat) (hl : l < 4294967296) (r : Int) (w : World) :
    Calls Try.prog 13 #[.int .u32 l, .int .i64 r] w fun e w' => e = .returned (.int .u32 (clrN l r)) ∧ w = w' := by
  by_cases h0 : 0 ≤ r
  · by_cases h1 : r ≤ 31
    · cases hb : l.testBit r.toNat with
      | false =>
        have he : Hid (clrN l r = l) := by show _ = _; unfold clrN; rw [if_pos ⟨h0, h1⟩, hb]; simp
        have hb' := Lib.hid hb
        clear hb
        go_enter Try.func13, Try.ntmps13
        go_wp2_with fail
        refine (refHas_any l hl r h0 h1 _).mono ?_; rw [hb'.out]; rintro e w' ⟨rfl, rfl⟩
        go_wp2_with fail
        go_ret
        exact ⟨by rw [he.out]; rfl, rfl⟩
      | true =>
        have hp : p2 r.toNat ≤ l := Nat.ge_two_pow_of_testBit hb
        have he : Hid (clrN l r = l - p2 r.toNat) := by show _ = _; unfold clrN; rw [if_pos ⟨h0, h1⟩, hb]; simp [p2]
        have hb' := Lib.hid hb
        clear hb
        go_enter Try.func13, Try.ntmps13
        go_wp2_with fail
        refine (refHas_any l hl r h0 h1 _).mono ?_; rw [hb'.out]; rintro e w' ⟨rfl, rfl⟩
        go_wp2_with fail
        refine (power_any r h0 h1 _).mono ?_; generalize p2 r.toNat = p at *; rintro e w' ⟨rfl, rfl⟩
        go_wp2_with fail
        go_ret
        refine ⟨?_, rfl⟩
        rw [he.out, Int.natCast_sub hp]; rfl
    · have he := Lib.hid (no_rank (r := r) (by omega) l).2
      go_enter Try.func13, Try.ntmps13
      go_wp2_with fail
      go_ret
      exact ⟨by rw [he.out]; rfl, rfl⟩
  · have he := Lib.hid (no_rank (r := r) (by omega) l).2
    go_enter Try.func13, Try.ntmps13
    go_wp2_with fail
    go_ret
    exact ⟨by rw [he.out]; rfl, rfl⟩
set_option maxHeartbeats 1000000 in
theorem laddersSets_walk (a0 : Int) (w0 : (Lit.int .u32 a0).wf = true) (r : Int) (w1 : (Lit.int .i64 r).wf = true) (w : World) :
    Calls Try.prog 3 #[.int .u32 a0, .int .i64 r] w fun e w' => e = .returned (.bool true) ∧ w.grownBy w' none := by
  obtain ⟨h0, h1⟩ := wf_u32 w0
  obtain ⟨l, rfl⟩ := Int.eq_ofNat_of_zero_le h0
  have hl : l < 4294967296 := by omega
  clear w0 w1 h0 h1
  go_enter Try.func3, Try.ntmps3
  go_wp2_with fail
  refine (set_any l hl r _).mono ?_; rintro e w' ⟨rfl, rfl⟩
  go_wp2_with fail
  refine (refSet_any l hl r _).mono ?_; rintro e w' ⟨rfl, rfl⟩
  go_wp2_with fail
  refine (clear_any l hl r _).mono ?_; rintro e w' ⟨rfl, rfl⟩
  go_wp2_with fail
  refine (refClear_any l hl r _).mono ?_; rintro e w' ⟨rfl, rfl⟩
  go_wp2_with fail
  go_ret
  exact ⟨rfl, grown_refl _ _⟩
end Go.Proofs.Ytpklpfpngjlokaa
