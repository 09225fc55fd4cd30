/- LaddersBits: a rank has somebody just if its bit is 1. -/
import Derived.Test.YtpklpfpngjlokaaLadO
import Derived.Test.YtpklpfpngjlokaaLadM2
namespace Go.Proofs.Ytpklpfpngjlokaa
open Go.RowKit Go.Shelf Tk Tk.Lad
set_option linter.unusedVariables false
set_option linter.unusedSimpArgs false

theorem setAfter (l : Nat) (hl : l < 4294967296) (r : Int) : setN (clrN l r) r = setN l r ∧ clrN (setN l r) r = clrN l r := by
  refine ⟨Tk.Lad.ext (set_lt (clr_lt hl r) r) (set_lt hl r) fun i _ => ?_, Tk.Lad.ext (clr_lt (set_lt hl r) r) (clr_lt hl r) fun i _ => ?_⟩
  · simp only [testBit_set, testBit_clr]
    cases l.testBit i <;> cases decide (0 ≤ r ∧ r ≤ 31) <;> cases decide (i = r.toNat) <;> rfl
  · simp only [testBit_set, testBit_clr]
    cases l.testBit i <;> cases decide (0 ≤ r ∧ r ≤ 31) <;> cases decide (i = r.toNat) <;> rfl
set_option maxRecDepth 100000 in
set_option maxHeartbeats 2000000 in
theorem laddersBits_walk (a0 : Int) (w0 : (Lit.int .u32 a0).wf = true) (a1 : Int) (w1 : (Lit.int .u8 a1).wf = true) (w : World) :
    Calls Try.prog 7 #[.int .u32 a0, .int .u8 a1] w fun e w' => e = .returned (.bool true) ∧ w.grownBy w' none := by
  obtain ⟨h0, h1⟩ := wf_u32 w0
  obtain ⟨l, rfl⟩ := Int.eq_ofNat_of_zero_le h0
  have hl : l < 4294967296 := by omega
  obtain ⟨h2, h3⟩ := wf_u8 w1
  clear w0 w1 h0 h1
  obtain ⟨k, hk⟩ : ∃ k : Nat, a1 % 32 = k := Int.eq_ofNat_of_zero_le (by omega)
  have hk32 : k < 32 := by omega
  have hone : Hid (((2 : Nat) ^ k : Nat) = setN 0 k) := by
    show _ = _
    unfold setN; rw [if_pos (by omega)]; simp
  have hone' : setN 0 (k : Int) < 4294967296 := set_lt (by decide) _
  have hone0 : setN 0 (k : Int) ≠ 0 := by rw [← hone.out]; exact Nat.ne_of_gt (Nat.two_pow_pos k)
  have hlog : Hid ((k : Int) = ((setN 0 (k : Int)).log2 : Int)) := by
    show _ = _
    rw [← hone.out, Nat.log2_two_pow]
  have hcl0 : Hid ((0 : Int) = (clrN (setN 0 (k : Int)) k : Int)) := by
    show _ = _
    have : clrN (setN 0 (k : Int)) k = 0 := Tk.Lad.ext (clr_lt hone' _) (by decide) fun i _ => by
      simp only [testBit_clr, testBit_set, Nat.zero_testBit, Bool.false_or]
      cases decide (0 ≤ (k : Int) ∧ (k : Int) ≤ 31) <;> cases decide (i = (k : Int).toNat) <;> rfl
    rw [this]; rfl
  have hsa := setAfter l hl k
  have hs1 := Lib.hid hsa.1
  have hs2 := Lib.hid hsa.2
  have hsl := set_lt hl (k : Int)
  have hcl := clr_lt hl (k : Int)
  clear hsa
  generalize hS : setN 0 (k : Int) = S at *
  have hS' : Hid ((S : Int) = (setN 0 (k : Int) : Int)) := by show _ = _; rw [hS]
  clear hS
  have hK := Lib.hid hk
  clear hk
  obtain ⟨q, hq⟩ : ∃ q, decide ((k : Int) ∈ ranksI l) = q := ⟨_, rfl⟩
  have hq' := Lib.hid hq
  have hdiv : ((l : Int) / 2 ^ k) = ((l / 2 ^ k : Nat) : Int) := by simp
  have hb1 : (bits .and .u32 ((l : Int) / 2 ^ k) 1 == 1) = q := by
    have h4 : l / 2 ^ k ≤ l := Nat.div_le_self _ _
    have h5 := bits_mask .u32 32 (by decide) (fun n h0 h1 => by rw [IntKind.wrap_u32]; omega) 1 (by decide) ((l : Int) / 2 ^ k) (by rw [hdiv]; exact Int.natCast_nonneg _) (by rw [hdiv]; exact_mod_cast Nat.lt_of_le_of_lt h4 hl)
    have h6 : ((2 : Int) ^ 1 - 1) = 1 := rfl
    rw [h6] at h5
    rw [h5, ← hq, hdiv, Bool.eq_iff_iff]
    simp only [decide_eq_true_eq, mem_ranksI hl, Int.toNat_natCast, Nat.testBit_eq_decide_div_mod_eq, beq_iff_eq]
    have : ((2 : Int) ^ 1) = 2 := rfl
    rw [this]
    generalize l / 2 ^ k = z
    omega
  have hb2 : ((2 : Int) ^ k % 4294967296) = S := by
    have h4 : ((2 : Int) ^ k) = ((2 ^ k : Nat) : Int) := by simp
    rw [h4, hone.out, Int.emod_eq_of_lt (by omega) (by omega)]
  clear hq hdiv
  go_enter Try.func7, Try.ntmps7
  go_wp2_with fail
  rw [hK.out]
  refine (set_at 0 S k 0 _ rfl (by decide) hS'.out).mono ?_; rintro e w' ⟨rfl, rfl⟩
  go_wp2_with fail
  refine (first_at S k S _ rfl hone' hone0 hlog.out).mono ?_; rintro e w' ⟨rfl, rfl⟩
  go_wp2_with fail
  refine (alive_any _).mono ?_; rintro e wd ⟨rfl, hgd⟩
  go_wp2_with fail
  refine (list_any l hl _).mono ?_; rintro e wa ⟨A, ca, rfl, ha, hsa, hga⟩
  have hg := grown_trans hgd hga
  go_wp2_with fail
  refine (has_is _ _ _ _ _ k q _ ha (ranksI_len _) hsa hq'.out).mono ?_; rintro e w' ⟨rfl, rfl⟩
  go_wp2_with fail
  refine (clear_at S 0 k S _ rfl hone' hcl0.out).mono ?_; rintro e w' ⟨rfl, rfl⟩
  go_wp2_with fail
  refine (clear_any l hl k _).mono ?_; rintro e w' ⟨rfl, rfl⟩
  go_wp2_with fail
  refine (set_any _ hcl k _).mono ?_; rw [hs1.out]; rintro e w' ⟨rfl, rfl⟩
  go_wp2_with fail
  refine (set_any l hl k _).mono ?_; rintro e w' ⟨rfl, rfl⟩
  go_wp2_with fail
  refine (set_any l hl k _).mono ?_; rintro e w' ⟨rfl, rfl⟩
  go_wp2_with fail
  refine (clear_any _ hsl k _).mono ?_; rw [hs2.out]; rintro e w' ⟨rfl, rfl⟩
  go_wp2_with fail
  refine (clear_any l hl k _).mono ?_; rintro e w' ⟨rfl, rfl⟩
  go_wp2_with fail
  go_ret
  exact ⟨rfl, hg⟩
end Go.Proofs.Ytpklpfpngjlokaa
