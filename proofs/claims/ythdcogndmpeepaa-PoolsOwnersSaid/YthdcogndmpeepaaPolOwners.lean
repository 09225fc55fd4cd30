/- PoolsOwners. -/
import Derived.Test.YthdcogndmpeepaaPolA
namespace Go.Proofs.Ythdcogndmpeepaa
open Go.RowKit Go.Shelf Tk
set_option linter.unusedVariables false
set_option linter.unusedSimpArgs false

theorem mem_set_rep {N : Nat} {a x : Int} (h : x ∈ (List.replicate N (0 : Int)).set 0 a) : x = a ∨ x = 0 := by
  rcases List.mem_or_eq_of_mem_set h with h | h
  · right; exact List.eq_of_mem_replicate h
  · left; exact h
set_option maxRecDepth 100000 in
set_option maxHeartbeats 8000000 in
theorem poolsOwners_walk (m : Int) (wm : (Lit.int .u8 m).wf = true) (a : Int) (wa : (Lit.int .u32 a).wf = true) (b : Int) (wb : (Lit.int .u32 b).wf = true) (w : World) :
    Calls Try.prog 7 #[.int .u8 m, .int .u32 a, .int .u32 b] w fun e w' => e = .returned (.bool true) ∧ w.grownBy w' none := by
  obtain ⟨m1, m2⟩ := wf_u8 wm
  clear wm wa wb
  obtain ⟨N, hN, hN1, hN2⟩ : ∃ N : Nat, (1 + m % 64) = (N : Int) ∧ 1 ≤ N ∧ N ≤ 64 := ⟨(m % 64).toNat + 1, by omega, by omega, by omega⟩
  have hm64 : (decide ((0 : Int) < m % 64) = true ∧ 2 ≤ N) ∨ decide ((0 : Int) < m % 64) = false := by
    simp only [decide_eq_true_eq, decide_eq_false_iff_not]; omega
  replace hN := Lib.hid hN
  have hd : (a == 0) = true ∨ ((a == 0) = false ∧ (b == 0) = true) ∨ ((a == 0) = false ∧ (b == 0) = false ∧ (a == b) = true) ∨ ((a == 0) = false ∧ (b == 0) = false ∧ (a == b) = false) := by
    simp only [beq_iff_eq, beq_eq_false_iff_ne]; omega
  rcases hd with d0 | ⟨d0, d1⟩ | ⟨d0, d1, d2⟩ | ⟨d0, d1, d2⟩
  case inr.inr.inr =>
    have ha : a ≠ 0 := by simpa using d0
    have hb : b ≠ 0 := by simpa using d1
    have hab : a ≠ b := by simpa using d2
    have hl : Hid ((List.replicate N (0 : Int)).length = N) := List.length_replicate
    have hl1 : Hid (((List.replicate N (0 : Int)).set 0 a).length = N) := by show _ = _; rw [List.length_set, List.length_replicate]
    have hl2 : Hid ((((List.replicate N (0 : Int)).set 0 a).set 0 0).length = N) := by show _ = _; rw [List.length_set, List.length_set, List.length_replicate]
    have hg0 : Hid (gd ((List.replicate N (0 : Int)).set 0 a) 0 = a) := by show _ = _; rw [gd_set (by rw [hl.out]; exact hN1), if_pos rfl]
    have hg1 : Hid (gd ((List.replicate N (0 : Int)).set 0 a) 1 = 0) := by show _ = _; rw [gd_set (by rw [hl.out]; exact hN1), if_neg (by decide), gd_rep]
    have hg2 : Hid (gd (((List.replicate N (0 : Int)).set 0 a).set 0 0) 0 = 0) := by show _ = _; rw [gd_set (by rw [hl1.out]; exact hN1), if_pos rfl]
    have hnb : Hid (∀ x ∈ (List.replicate N (0 : Int)).set 0 a, x ≠ b) := fun x hx => by rcases mem_set_rep hx with rfl | rfl <;> omega
    have hna : Hid (∀ x ∈ ((List.replicate N (0 : Int)).set 0 a).set 0 0, x ≠ a) := fun x hx => by
      rw [List.set_set] at hx
      rcases mem_set_rep hx with rfl | rfl <;> omega
    replace ha := Lib.hid ha
    replace hb := Lib.hid hb
    replace hab := Lib.hid hab
    go_enter Try.func7, Try.ntmps7
    go_wp2_with fail
    refine (of_ok m m1 m2 N hN.out _).mono ?_; rintro e wp ⟨rfl, hP, hg, hs⟩
    obtain ⟨B, hB⟩ : ∃ B, w.heap.size = B := ⟨_, rfl⟩
    have hBw : w.heap.size ≤ B := by omega
    rw [hB] at hP ⊢
    clear hB hs
    go_wp2_with fail
    refine (alloc_at a ha.out 0 (by rw [hl.out]; exact hN1) (gd_rep _ _) (by omega) _ hP).mono ?_; rintro e w1 ⟨rfl, hP1, g1⟩
    have hgw1 := grown_step hg g1 hBw
    clear hP hg g1
    go_wp2_with fail
    refine (free_other b 0 hb.out 0 rfl (by rw [hl1.out]; exact hN1) (by rw [hg0.out]; exact hab.out) _ hP1).mono ?_; rintro e w' ⟨rfl, rfl⟩
    go_wp2_with fail
    refine (free_arg 0 0 (.inl rfl) _ hP1).mono ?_; rintro e w' ⟨rfl, rfl⟩
    go_wp2_with fail
    refine (free_arg a (-1) (.inr (.inl (by decide))) _ hP1).mono ?_; rintro e w' ⟨rfl, rfl⟩
    go_wp2_with fail
    refine (free_arg a 64 (.inr (.inr (by rw [hl1.out]; omega))) _ hP1).mono ?_; rintro e w' ⟨rfl, rfl⟩
    go_wp2_with fail
    refine (all_none b hb.out hnb.out _ hP1).mono ?_; rintro e w2 ⟨rfl, hP2, g2⟩
    have hgw2 := grown_step hgw1 g2 hBw
    clear hP1 hgw1 g2
    rcases hm64 with ⟨hm64, h2N⟩ | hm64
    · go_wp2_with fail
      refine (free_other a 1 ha.out 1 rfl (by rw [hl1.out]; exact h2N) (by rw [hg1.out]; exact fun e => ha.out e.symm) _ hP2).mono ?_; rintro e w' ⟨rfl, rfl⟩
      go_wp2_with fail
      refine (alive_any _).mono ?_; rintro e w3 ⟨rfl, g3⟩
      have hP3 := hP2.keep g3
      have hgw3 := grown_trans hgw2 g3
      clear hP2 hgw2 g3
      go_wp2_with fail
      refine (free_is a 0 ha.out 0 rfl (by rw [hl1.out]; exact hN1) hg0.out _ hP3).mono ?_; rintro e w4 ⟨rfl, hP4, g4⟩
      have hgw4 := grown_step hgw3 g4 hBw
      go_wp2_with fail
      refine (free_other a 0 ha.out 0 rfl (by rw [hl2.out]; exact hN1) (by rw [hg2.out]; exact fun e => ha.out e.symm) _ hP4).mono ?_; rintro e w' ⟨rfl, rfl⟩
      go_wp2_with fail
      refine (all_none a ha.out hna.out _ hP4).mono ?_; rintro e w5 ⟨rfl, hP5, g5⟩
      go_wp2_with fail
      go_ret
      exact ⟨rfl, grown_step hgw4 g5 hBw⟩
    · go_wp2_with fail
      refine (alive_any _).mono ?_; rintro e w3 ⟨rfl, g3⟩
      have hP3 := hP2.keep g3
      have hgw3 := grown_trans hgw2 g3
      clear hP2 hgw2 g3
      go_wp2_with fail
      refine (free_is a 0 ha.out 0 rfl (by rw [hl1.out]; exact hN1) hg0.out _ hP3).mono ?_; rintro e w4 ⟨rfl, hP4, g4⟩
      have hgw4 := grown_step hgw3 g4 hBw
      go_wp2_with fail
      refine (free_other a 0 ha.out 0 rfl (by rw [hl2.out]; exact hN1) (by rw [hg2.out]; exact fun e => ha.out e.symm) _ hP4).mono ?_; rintro e w' ⟨rfl, rfl⟩
      go_wp2_with fail
      refine (all_none a ha.out hna.out _ hP4).mono ?_; rintro e w5 ⟨rfl, hP5, g5⟩
      go_wp2_with fail
      go_ret
      exact ⟨rfl, grown_step hgw4 g5 hBw⟩
  all_goals
    go_enter Try.func7, Try.ntmps7
    go_wp2_with fail
    refine (of_ok m m1 m2 N hN.out _).mono ?_; rintro e wp ⟨rfl, hP, hg, hs⟩
    clear hm64
    go_wp2_with fail
    refine (alive_any _).mono ?_; rintro e wd ⟨rfl, hg2⟩
    go_wp2_with fail
    go_ret
    exact ⟨rfl, grown_trans hg hg2⟩
end Go.Proofs.Ythdcogndmpeepaa
