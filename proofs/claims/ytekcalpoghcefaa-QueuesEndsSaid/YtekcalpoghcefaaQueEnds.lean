/- QueuesEnds. -/
import Derived.Test.YtekcalpoghcefaaQueA
namespace Go.Proofs.Ytekcalpoghcefaa
open Go.RowKit Go.Shelf Tk
set_option linter.unusedVariables false
set_option linter.unusedSimpArgs false

set_option maxRecDepth 100000 in
set_option maxHeartbeats 8000000 in
theorem queuesEnds_walk (A0 : Option Addr) (c0 : Nat) (xs : List Int) (hl0 : xs.length ≤ c0) (A1 : Option Addr) (c1 : Nat) (ys : List Int) (hl1 : ys.length ≤ c1) (w : World)
    (hs0 : SlA w 0 w.heap.size .u32 A0 xs) (hf0 : ∀ x ∈ xs, (Lit.int .u32 x).wf = true) (hb0 : xs.length * 4 ≤ 140737488351232) (hs1 : SlA w 0 w.heap.size .u32 A1 ys) (hf1 : ∀ x ∈ ys, (Lit.int .u32 x).wf = true) (hb1 : ys.length * 4 ≤ 140737488351232) :
    Calls Try.prog 6 #[.slice A0 xs.length c0, .slice A1 ys.length c1] w fun e w' => e = .returned (.bool true) ∧ w.grownBy w' none := by
  clear hf0 hf1
  by_cases hlen : 63 < xs.length ∨ 100 < ys.length
  · have hd : decide ((63 : Int) < (xs.length : Int)) = true ∨ (decide ((63 : Int) < (xs.length : Int)) = false ∧ decide ((100 : Int) < (ys.length : Int)) = true) := by
      simp only [decide_eq_true_eq, decide_eq_false_iff_not]; omega
    clear hlen
    rcases hd with hd | ⟨hd, hd2⟩
    all_goals
      go_enter Try.func6, Try.ntmps6
      go_wp2_with fail
      refine (alive_any _).mono ?_; rintro e wd ⟨rfl, hg⟩
      go_wp2_with fail
      refine (alive_any _).mono ?_; rintro e we ⟨rfl, hg2⟩
      go_wp2_with fail
      go_ret
      exact ⟨rfl, grown_trans hg hg2⟩
  · have hx : xs.length ≤ 63 := by omega
    have hy : ys.length ≤ 100 := by omega
    have hd : decide ((63 : Int) < (xs.length : Int)) = false := by simp; omega
    have hd2 : decide ((100 : Int) < (ys.length : Int)) = false := by simp; omega
    clear hlen
    have hK0 := Lib.hid (fun wr (h : w.grownBy wr none) => hs0.kept h (by simp))
    have hK1 := Lib.hid (fun wr (h : w.grownBy wr none) => hs1.kept h (by simp))
    clear hs0 hs1
    go_enter Try.func6, Try.ntmps6
    go_wp2_with fail
    refine (alive_any _).mono ?_; rintro e wd ⟨rfl, hg⟩
    have hwd := hg.size
    go_wp2_with fail
    refine (new_ok 64 (by decide) (by decide) _).mono ?_; rintro e wa ⟨rfl, hQ, hga, hsz⟩
    have hgw := grown_trans hg hga
    obtain ⟨B, hB⟩ : ∃ B, wd.heap.size = B := ⟨_, rfl⟩
    have hBw : w.heap.size ≤ B := by omega
    rw [hB] at hQ ⊢
    clear hB hsz hg hga
    go_wp2_with fail
    go_loopw [7] (fun i wr => ∃ (k : Nat) (f : Nat) (c : Nat → Int), k ≤ xs.length ∧ i = .int .i64 k ∧ Que wr B 64 (xs.take k) f c ∧ w.grownBy wr none) (fun i _ => xs.length - (intOf i).toNat)
    case atStart => exact ⟨0, _, _, Nat.zero_le _, rfl, hQ, hgw⟩
    case round =>
      obtain ⟨k, f, c, hk, rfl, hQ, hg⟩ := hrel
      have htl : (xs.take k).length = k := by simp; omega
      by_cases hlt : k < xs.length
      · obtain ⟨b, o, rfl, hc⟩ := (hK0.out _ hg).at hlt
        have hts := Lib.hid (take_snoc hlt)
        generalize gd xs k = x at *
        go_wp2_with fail
        refine (put_ok x _ hQ (by omega)).mono ?_; rintro e w1 ⟨rfl, ⟨c', hQ1⟩, g1⟩
        go_wp2_with fail
        go_roundw
        case rel => exact ⟨k + 1, f, c', by omega, by go_num, by rw [← hts.out]; exact hQ1, grown_step hg g1 hBw⟩
        case measure => simp [intOf]; omega
      · obtain rfl : k = xs.length := by omega
        rw [List.take_length] at hQ
        clear hgw
        go_wp2_with fail
        go_loopw [8, 9, 10] (fun i _ _ wr2 => ∃ (k : Nat) (f : Nat) (c : Nat → Int), k ≤ ys.length ∧ i = .int .i64 k ∧ Que wr2 B 64 xs f c ∧ w.grownBy wr2 none) (fun i _ _ _ => ys.length - (intOf i).toNat)
        case atStart => exact ⟨0, _, _, Nat.zero_le _, rfl, hQ, hg⟩
        case round =>
          obtain ⟨k, f2, c2, hk, rfl, hQ, hg⟩ := hrel
          by_cases hlt : k < ys.length
          · obtain ⟨b, o, rfl, hc⟩ := (hK1.out _ hg).at hlt
            generalize hyk : gd ys k = y at *
            replace hyk := Lib.hid hyk
            go_wp2_with fail
            refine (push_ok y _ hQ (by omega)).mono ?_; rintro e w1 ⟨rfl, ⟨f3, c3, hQ1⟩, g1⟩
            have hg1 := grown_step hg g1 hBw
            clear hg g1 hQ
            go_wp2_with fail
            refine (take_ok _ hQ1).mono ?_; rintro e w2 ⟨rfl, ⟨f4, hQ2⟩, g2⟩
            have hg2 := grown_step hg1 g2 hBw
            clear hg1 g2 hQ1 hc
            have hc := (hK1.out _ hg2).cell hlt
            rw [hyk.out] at hc
            have hyy : (y != y) = false := by simp
            go_wp2_with fail
            refine (list_ok _ hQ2).mono ?_; rintro e w3 ⟨A, kk, rfl, hkk, hM, g3⟩
            have hg3 := grown_trans hg2 g3
            have hQ3 := hQ2.keep g3
            go_wp2_with fail
            refine (sameWords_any _ _ _ _ _ _ _ _ xs xs _ hkk hl0 (by omega) (by omega) hM.sl (hK0.out _ hg3)).mono ?_; rw [decide_eq_true rfl]; rintro e w4 ⟨rfl, n, rfl⟩
            have hQ4 := hQ3.keep (grown_drewN (grown_refl w3 none) n)
            have hg4 := grown_drewN hg3 n
            go_wp2_with fail
            go_roundw
            case rel => exact ⟨k + 1, _, _, by omega, by go_num, hQ4, hg4⟩
            case measure => simp [intOf]; omega
          · go_wp2_with fail
            go_ret
            exact ⟨rfl, hg⟩
end Go.Proofs.Ytekcalpoghcefaa
