/- The walks of the ladders' statements. -/
import Derived.Test.YtpklpfpngjlokaaLadH
namespace Go.Proofs.Ytpklpfpngjlokaa
open Go.RowKit Go.Shelf Tk Tk.Lad
set_option linter.unusedVariables false
set_option linter.unusedSimpArgs false

theorem mem_ranksI {n : Nat} (hn : n < 4294967296) (i : Int) : i ∈ ranksI n ↔ 0 ≤ i ∧ n.testBit i.toNat = true := by
  unfold ranksI
  rw [List.mem_map]
  constructor
  · rintro ⟨a, ha, rfl⟩
    exact ⟨by omega, by simpa using (mem_ranks hn).1 ha⟩
  · rintro ⟨h0, hb⟩
    exact ⟨i.toNat, (mem_ranks hn).2 hb, by omega⟩
theorem ranksI_len (n : Nat) : (ranksI n).length ≤ 1000000 := by
  have := ranks_len n; simp [ranksI]; omega
/-- 'has', where its answer is known. -/
theorem has_is (A : Option Addr) (c lo hi : Nat) (xs : List Int) (r : Int) (b : Bool) (w : World) (hl : xs.length ≤ c) (hm : xs.length ≤ 1000000) (hs : SlA w lo hi .i64 A xs) (hb : decide (r ∈ xs) = b) :
    Calls Try.prog 15 #[.slice A xs.length c, .int .i64 r] w fun e w' => e = .returned (.bool b) ∧ w = w' := by
  subst hb; exact has_any A c lo hi xs r w hl hm hs
theorem set_mem {l : Nat} (hl : l < 4294967296) (r i : Int) (b : Bool) (h : (decide (i ∈ ranksI l) || (decide (0 ≤ r ∧ r ≤ 31) && decide (i = r))) = b) : decide (i ∈ ranksI (setN l r)) = b := by
  rw [← h, Bool.eq_iff_iff]
  simp only [decide_eq_true_eq, Bool.or_eq_true, Bool.and_eq_true, mem_ranksI hl, mem_ranksI (set_lt hl r), testBit_set]
  constructor
  · rintro ⟨h0, h1 | ⟨h1, h2⟩⟩
    · exact .inl ⟨h0, h1⟩
    · exact .inr ⟨h1, by omega⟩
  · rintro (⟨h0, h1⟩ | ⟨h1, rfl⟩)
    · exact ⟨h0, .inl h1⟩
    · exact ⟨by omega, .inr ⟨h1, rfl⟩⟩
theorem clr_mem {l : Nat} (hl : l < 4294967296) (r i : Int) (b : Bool) (h : (decide (i ∈ ranksI l) && !(decide (0 ≤ r ∧ r ≤ 31) && decide (i = r))) = b) : decide (i ∈ ranksI (clrN l r)) = b := by
  rw [← h, Bool.eq_iff_iff]
  simp only [decide_eq_true_eq, Bool.and_eq_true, Bool.not_eq_true', mem_ranksI hl, mem_ranksI (clr_lt hl r), testBit_clr, Bool.and_eq_false_iff, decide_eq_false_iff_not]
  constructor
  · rintro ⟨h0, h1, h2⟩
    exact ⟨⟨h0, h1⟩, h2.imp id fun h3 e => h3 (by rw [e])⟩
  · rintro ⟨⟨h0, h1⟩, h2⟩
    exact ⟨h0, h1, by
      by_cases hr : 0 ≤ r ∧ r ≤ 31
      · right; intro e; rcases h2 with h2 | h2
        · exact h2 hr
        · exact h2 (by omega)
      · exact .inl hr⟩
theorem out_mem {l : Nat} (hl : l < 4294967296) {i : Int} (hi : ¬ (0 ≤ i ∧ i ≤ 31)) : decide (i ∈ ranksI l) = false := by
  simp only [decide_eq_false_iff_not, mem_ranksI hl]
  rintro ⟨h0, h1⟩
  rw [high hl (by omega)] at h1; cases h1

set_option maxRecDepth 100000 in
set_option maxHeartbeats 2000000 in
theorem laddersOne_walk (a0 : Int) (w0 : (Lit.int .u32 a0).wf = true) (r : Int) (w1 : (Lit.int .i64 r).wf = true) (w : World) :
    Calls Try.prog 4 #[.int .u32 a0, .int .i64 r] w fun e w' => e = .returned (.bool true) ∧ w.grownBy w' none := by
  obtain ⟨h0, h1⟩ := wf_u32 w0
  obtain ⟨l, rfl⟩ := Int.eq_ofNat_of_zero_le h0
  have hl : l < 4294967296 := by omega
  clear w0 w1 h0 h1
  have hsl := set_lt hl r
  have hcl := clr_lt hl r
  go_enter Try.func4, Try.ntmps4
  go_wp2_with fail
  refine (list_any l hl _).mono ?_; rintro e wa ⟨A, ca, rfl, ha, hsa, hga⟩
  go_wp2_with fail
  refine (set_any l hl r _).mono ?_; rintro e w' ⟨rfl, rfl⟩
  go_wp2_with fail
  refine (list_any _ hsl _).mono ?_; rintro e wb ⟨B, cb, rfl, hb, hsb, hgb⟩
  go_wp2_with fail
  refine (clear_any l hl r _).mono ?_; rintro e w' ⟨rfl, rfl⟩
  go_wp2_with fail
  refine (list_any _ hcl _).mono ?_; rintro e wc ⟨C, cc, rfl, hc, hsc, hgc⟩
  have hsa' := (hsa.kept hgb (by simp)).kept hgc (by simp)
  have hsb' := hsb.kept hgc (by simp)
  have hg := grown_trans (grown_trans hga hgb) hgc
  clear hsa hsb hga hgb hgc
  obtain ⟨m, hm, hr⟩ : ∃ m : Bool, decide (0 ≤ r ∧ r ≤ 31) = m ∧ ((r < 0 ∧ m = false) ∨ (0 ≤ r ∧ r ≤ 31 ∧ m = true) ∨ (31 < r ∧ m = false)) := ⟨_, rfl, by
    simp only [decide_eq_true_eq, decide_eq_false_iff_not]; omega⟩
  have hin1 : Hid (decide (r ∈ ranksI (setN l r)) = m) := set_mem hl r r m (by
    rw [hm]; cases m
    · simp only [decide_eq_false_iff_not] at hm; simp [out_mem hl hm]
    · simp)
  have hin2 : Hid (decide (r ∈ ranksI (clrN l r)) = false) := clr_mem hl r r false (by
    rw [hm]; cases m
    · simp only [decide_eq_false_iff_not] at hm; simp [out_mem hl hm]
    · simp)
  have hin3 : Hid (∀ i : Int, i ≠ r → decide (i ∈ ranksI (setN l r)) = decide (i ∈ ranksI l) ∧ decide (i ∈ ranksI (clrN l r)) = decide (i ∈ ranksI l)) := fun i hi =>
    ⟨set_mem hl r i _ (by simp [hi]), clr_mem hl r i _ (by simp [hi])⟩
  have hno : Hid (m = false → setN l r = l ∧ clrN l r = l) := fun h => by
    rw [h] at hm; simp only [decide_eq_false_iff_not] at hm
    simp [setN, clrN, hm]
  clear hm
  rcases hr with ⟨hr, rfl⟩ | ⟨hr, hr', rfl⟩ | ⟨hr, rfl⟩
  all_goals
    go_wp2_with fail
    refine (has_is _ _ _ _ _ r _ _ hb (ranksI_len _) hsb' hin1.out).mono ?_; rintro e w' ⟨rfl, rfl⟩
    go_wp2_with fail
    refine (has_is _ _ _ _ _ r _ _ hc (ranksI_len _) hsc hin2.out).mono ?_; rintro e w' ⟨rfl, rfl⟩
    go_wp2_with fail
    go_loop [9] (fun i => ∃ k : Nat, k ≤ 32 ∧ i = .int .i64 k) (fun i => 32 - (intOf i).toNat)
    case atStart => exact ⟨0, by omega, rfl⟩
    case round =>
      obtain ⟨k, hk, rfl⟩ := hrel
      by_cases hlt : k < 32
      · by_cases he : (k : Int) = r
        · have hb' : ((k : Int) != r) = false := by simp [he]
          clear he
          go_wp2_with fail
          go_round
          case rel => exact ⟨k + 1, by omega, by go_num⟩
          case measure => simp [intOf]; omega
        · have hb' : ((k : Int) != r) = true := by simp [he]
          have h3 := hin3.out k he
          have h4 := Lib.hid h3.1
          have h5 := Lib.hid h3.2
          obtain ⟨q, hq⟩ : ∃ q, decide ((k : Int) ∈ ranksI l) = q := ⟨_, rfl⟩
          rw [hq] at h4 h5
          have h6 := Lib.hid hq
          clear h3 hq he
          go_wp2_with fail
          refine (has_is _ _ _ _ _ k q _ hb (ranksI_len _) hsb' h4.out).mono ?_; rintro e w' ⟨rfl, rfl⟩
          go_wp2_with fail
          refine (has_is _ _ _ _ _ k q _ ha (ranksI_len _) hsa' h6.out).mono ?_; rintro e w' ⟨rfl, rfl⟩
          go_wp2_with fail
          refine (has_is _ _ _ _ _ k q _ hc (ranksI_len _) hsc h5.out).mono ?_; rintro e w' ⟨rfl, rfl⟩
          go_wp2_with fail
          refine (has_is _ _ _ _ _ k q _ ha (ranksI_len _) hsa' h6.out).mono ?_; rintro e w' ⟨rfl, rfl⟩
          go_wp2_with fail
          go_round
          case rel => exact ⟨k + 1, by omega, by go_num⟩
          case measure => simp [intOf]; omega
      · go_wp2_with fail
        refine (alive_any _).mono ?_; rintro e wd ⟨rfl, hgd⟩
        have hg' := grown_trans hg hgd
        first
          | (go_wp2_with fail
             go_ret
             exact ⟨rfl, hg'⟩)
          | (go_wp2_with fail
             refine (set_at l l r l _ rfl hl (by rw [(hno.out (by trivial)).1])).mono ?_; rintro e w' ⟨rfl, rfl⟩
             go_wp2_with fail
             refine (clear_at l l r l _ rfl hl (by rw [(hno.out (by trivial)).2])).mono ?_; rintro e w' ⟨rfl, rfl⟩
             go_wp2_with fail
             go_ret
             exact ⟨rfl, hg'⟩)
end Go.Proofs.Ytpklpfpngjlokaa
