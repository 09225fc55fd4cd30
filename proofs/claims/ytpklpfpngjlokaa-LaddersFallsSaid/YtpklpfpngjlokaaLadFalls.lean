/- LaddersFalls: the ranks are told falling, and each is First behind those ahead of it. -/
import Derived.Test.YtpklpfpngjlokaaLadO
namespace Go.Proofs.Ytpklpfpngjlokaa
open Go.RowKit Go.Shelf Tk Tk.Lad
set_option linter.unusedVariables false
set_option linter.unusedSimpArgs false

theorem gd_ranksI {l i : Nat} (h : i < (ranksI l).length) : ∃ n : Nat, gd (ranksI l) i = n ∧ (ranks l)[i]? = some n := by
  unfold ranksI at h
  have h' : i < (ranks l).length := by simpa using h
  refine ⟨(ranks l)[i], ?_, by simp [h']⟩
  unfold ranksI
  rw [gd_lt h]
  simp
theorem ranksI_sorted {l i : Nat} (h : i + 1 < (ranksI l).length) : gd (ranksI l) (i + 1) < gd (ranksI l) i := by
  have h1 := ranks_sorted l
  rw [List.pairwise_iff_getElem] at h1
  have hl : (ranksI l).length = (ranks l).length := by simp [ranksI]
  obtain ⟨a, ea, ha⟩ := gd_ranksI h
  obtain ⟨b, eb, hb⟩ := gd_ranksI (l := l) (i := i) (by omega)
  rw [ea, eb]
  have := h1 i (i + 1) (by omega) (by omega) (by omega)
  rw [List.getElem?_eq_getElem (by omega)] at ha hb
  simp only [Option.some.injEq] at ha hb
  omega
set_option maxRecDepth 100000 in
set_option maxHeartbeats 2000000 in
theorem laddersFalls_walk (a0 : Int) (w0 : (Lit.int .u32 a0).wf = true) (w : World) :
    Calls Try.prog 5 #[.int .u32 a0] w fun e w' => e = .returned (.bool true) ∧ w.grownBy w' none := by
  obtain ⟨h0, h1⟩ := wf_u32 w0
  obtain ⟨l, rfl⟩ := Int.eq_ofNat_of_zero_le h0
  have hl : l < 4294967296 := by omega
  clear w0 h0 h1
  have hlen := ranksI_len l
  go_enter Try.func5, Try.ntmps5
  go_wp2_with fail
  refine (list_any l hl _).mono ?_; rintro e wa ⟨A, ca, rfl, ha, hsa, hga⟩
  go_wp2_with fail
  go_loopw [0, 4] (fun x i wr => ∃ k m n : Nat, k ≤ (ranksI l).length ∧ i = .int .i64 k ∧ x = .int .u32 m ∧ m < 4294967296 ∧ Hid (ranksI m = (ranksI l).drop k) ∧ wr = wa.drewN n) (fun _ i _ => (ranksI l).length - (intOf i).toNat)
  case atStart => exact ⟨0, l, 0, Nat.zero_le _, rfl, rfl, hl, by show _ = _; simp, rfl⟩
  case round =>
    obtain ⟨k, m, n, hk, rfl, rfl, hm, hd, rfl⟩ := hrel
    by_cases hlt : k < (ranksI l).length
    · obtain ⟨b, o, rfl, hc⟩ := hsa.at hlt
      have hm0 : m ≠ 0 := by
        intro h; subst h
        have := congrArg List.length hd.out
        rw [List.length_drop] at this
        simp [ranksI, ranks_zero] at this
        simp [ranksI] at hlt
        omega
      have hcons : ranksI m = (m.log2 : Int) :: ranksI (clrN m m.log2) := by unfold ranksI; rw [ranks_cons hm0 hm]; simp
      have hgd : gd (ranksI l) k = (m.log2 : Int) := by
        have := hd.out
        rw [hcons] at this
        have h2 := congrArg (fun x => x[0]?) this
        simp only [List.getElem?_cons_zero, List.getElem?_drop, Nat.add_zero] at h2
        unfold gd; rw [← h2]; rfl
      have hdrop : Hid (ranksI (clrN m m.log2) = (ranksI l).drop (k + 1)) := by
        show _ = _
        have := congrArg (List.drop 1) hd.out
        rw [hcons] at this
        simpa [List.drop_drop] using this
      have htop := top_lt hm0 hm
      have hcl := clr_lt hm (m.log2 : Int)
      rw [hgd] at hc
      have hne : ((m.log2 : Int) != (m.log2 : Int)) = false := by simp
      clear hcons
      have hsa0 := hsa
      clear hsa
      have hd1 : decide ((m.log2 : Int) < 0) = false := by simp
      have hd2 : decide (31 < (m.log2 : Int)) = false := by simp; omega
      have hd3 : ((k : Nat) : Int) < ((ranksI l).length : Int) := by omega
      generalize hT : m.log2 = t at *
      have hT' := Lib.hid hT
      clear hT
      cases k with
      | zero =>
        clear hgd
        rw [Nat.add_zero] at hc
        go_wp2_with fail
        go_quiet (fail)
        go_wp2_with fail
        refine (first_at m t m _ rfl hm hm0 (by rw [hT'.out])).mono ?_; rintro e w' ⟨rfl, rfl⟩
        go_wp2_with fail
        refine (clear_any m hm t _).mono ?_; rintro e w' ⟨rfl, rfl⟩
        go_wp2_with fail
        go_roundw
        case rel => exact ⟨1, clrN m t, _, by omega, rfl, rfl, hcl, hdrop, rfl⟩
        case measure => simp [intOf]; omega
      | succ k =>
        have hk2 : k < (ranksI l).length := by omega
        obtain ⟨b', o', he, hc'⟩ := hsa0.at hk2
        cases he
        have hfall := ranksI_sorted (l := l) (i := k) (by omega)
        rw [hgd] at hfall
        clear hgd
        generalize gd (ranksI l) k = g at *
        have hd4 : decide (g ≤ (t : Int)) = false := by simp; omega
        have hd5 : ((k : Nat) : Int) < ((ranksI l).length : Int) := by omega
        go_wp2_with fail
        go_quiet (fail)
        go_wp2_with fail
        refine (first_at m t m _ rfl hm hm0 (by rw [hT'.out])).mono ?_; rintro e w' ⟨rfl, rfl⟩
        go_wp2_with fail
        refine (clear_any m hm t _).mono ?_; rintro e w' ⟨rfl, rfl⟩
        go_wp2_with fail
        go_roundw
        case rel => exact ⟨k + 1 + 1, clrN m t, _, by omega, by go_num, rfl, hcl, hdrop, rfl⟩
        case measure => simp [intOf]; omega
    · have hm0 : m = 0 := by
        have := hd.out
        rw [List.drop_of_length_le (by omega)] at this
        by_cases h : m = 0
        · exact h
        · unfold ranksI at this; rw [ranks_cons h hm] at this; simp at this
      subst hm0
      go_wp2_with fail
      refine (first_zero _).mono ?_; rintro e w' ⟨rfl, rfl⟩
      go_wp2_with fail
      refine (alive_any _).mono ?_; rintro e wd ⟨rfl, hgd⟩
      have hg' := grown_trans (grown_drewN hga n) hgd
      go_wp2_with fail
      go_ret
      exact ⟨rfl, hg'⟩
end Go.Proofs.Ytpklpfpngjlokaa
