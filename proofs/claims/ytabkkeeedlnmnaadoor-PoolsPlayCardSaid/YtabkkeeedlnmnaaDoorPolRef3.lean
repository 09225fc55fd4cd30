/- timekeeperref05: All. -/
import Derived.Test.YtabkkeeedlnmnaaDoorPolRef2
namespace Go.Proofs.YtabkkeeedlnmnaaDoor
open Go.RowKit Go.Shelf Tk
set_option linter.unusedVariables false
set_option linter.unusedSimpArgs false
namespace RefP
variable {w w' : World} {R m : Nat} {v : Value} {os : List Int}
theorem all_zero (h : RQ w R m v os) (h1 : 1 ≤ os.length) : Calls Tryd.prog 62 #[.pointer (some ⟨R, 0, none⟩), .int .u32 0] w fun e w' => e = .returned (.int .i64 0) ∧ Post w R m v os w' := by
  obtain ⟨n, hn⟩ : ∃ n, os.length = n := ⟨_, rfl⟩
  obtain ⟨M, rfl, hc, hf, c0, h64⟩ := h.open hn
  rw [hn] at h1
  have hs := Lib.hid (h.same (grown_refl w none))
  have hd : decide ((0 : Int) < (n : Int)) = true := decide_eq_true (by omega)
  have hd2 : (0 : Int) < (n : Int) := by omega
  clear h hn hc hf h1
  go_enter Tryd.func62, Tryd.ntmps62
  go_wp2_with fail
  go_loopw [5, 6] (fun c i wr => c = .int .i64 0 ∧ i = .int .i64 0 ∧ wr = w) (fun _ _ _ => 0)
  case atStart => exact ⟨rfl, rfl, rfl⟩
  case round =>
    obtain ⟨rfl, rfl, hww⟩ := hrel
    obtain rfl : w = wr := hww.symm
    go_wp2_with fail
    go_ret
    exact ⟨rfl, hs.out⟩
set_option maxRecDepth 100000 in
theorem all_ok (x : Int) (hx : x ≠ 0) (h : RQ w R m v os) : Calls Tryd.prog 62 #[.pointer (some ⟨R, 0, none⟩), .int .u32 x] w fun e w' => e = .returned (.int .i64 (os.count x)) ∧ Post w R m v (os.map fun y => if y = x then 0 else y) w' := by
  obtain ⟨n, hn⟩ : ∃ n, os.length = n := ⟨_, rfl⟩
  obtain ⟨M, rfl, -, -, -, h64⟩ := h.open hn
  have hcc : Hid (cnt x os n = os.count x) := by rw [← hn]; exact cnt_all x os
  have hlc : Hid (clr x os n = os.map fun y => if y = x then 0 else y) := by rw [← hn]; exact clr_all x os
  have x0 : (x != 0) = true := by rw [bne_iff_ne]; exact hx
  have hst : Hid (RQ w R m (.slice (some ⟨M, 0, none⟩) n n) (clr x os 0)) := by rw [clr_zero]; exact h
  replace hn := Lib.hid hn
  clear h hx
  go_enter Tryd.func62, Tryd.ntmps62
  go_wp2_with fail
  go_loopw [5, 6] (fun c i wr => ∃ k d : Nat, k ≤ n ∧ i = .int .i64 k ∧ c = .int .i64 d ∧ d ≤ k ∧ Hid (d = cnt x os k) ∧ Hid (RQ wr R m (.slice (some ⟨M, 0, none⟩) n n) (clr x os k)) ∧ Hid (Fr (OwnQ R (.slice (some ⟨M, 0, none⟩) n n)) w wr)) (fun _ i _ => n - (intOf i).toNat)
  case atStart => exact ⟨0, 0, Nat.zero_le _, rfl, rfl, Nat.le_refl _, rfl, hst, Fr.refl _ _⟩
  case round =>
    obtain ⟨k, d, hk, rfl, rfl, hdk, hd, hR, hF⟩ := hrel
    clear hst
    have hln : (clr x os k).length = n := by rw [clr_len]; exact hn.out
    obtain ⟨M', e, hc, hf, c0, -⟩ := hR.out.open hln
    cases e
    by_cases hlt : k < n
    · have q := hc k hlt
      have qf := hf k
      have hgk : gd (clr x os k) k = gd os k := by rw [gd_clr (by rw [hn.out]; exact hlt), if_neg (by omega)]
      rw [hgk] at q
      have hkI : (k : Int) < (n : Int) := by omega
      by_cases h0 : gd os k = x
      · have hd2 : Hid (d + 1 = cnt x os (k + 1)) := by show _ = _; rw [cnt_succ_eq (by rw [hn.out]; exact hlt) h0, ← hd.out]
        have hR2 : Hid (RQ (wr.setCell ⟨M, k, none⟩ (.int .u32 0)) R m (.slice (some ⟨M, 0, none⟩) n n) (clr x os (k + 1))) := by
          rw [clr_succ_eq (by rw [hn.out]; exact hlt) h0]; exact hR.out.set hln k 0
        have hF2 : Hid (Fr (OwnQ R (.slice (some ⟨M, 0, none⟩) n n)) w (wr.setCell ⟨M, k, none⟩ (.int .u32 0))) := hF.out.trans (Fr.of_grown (grownBy_setCell wr M k (.int .u32 0)) (fun k e _ => by cases e; exact .inr rfl))
        rw [h0] at q
        have y1 : (x == x) = true := by simp
        clear h0 hgk hc hf hln
        go_wp2_with fail
        go_roundw
        case rel => exact ⟨k + 1, d + 1, by omega, by go_num, by go_num, by omega, hd2, hR2, hF2⟩
        case measure => exact meas n k hlt
      · have hd2 : Hid (d = cnt x os (k + 1)) := by show _ = _; rw [cnt_succ_ne (by rw [hn.out]; exact hlt) h0, ← hd.out]
        have hR2 : Hid (RQ wr R m (.slice (some ⟨M, 0, none⟩) n n) (clr x os (k + 1))) := by
          rw [clr_succ_ne (by rw [hn.out]; exact hlt) h0]; exact hR.out
        have y0 : (gd os k == x) = false := by rw [beq_eq_false_iff_ne]; exact h0
        clear hgk hc hf hln
        generalize gd os k = y at *
        clear h0
        go_wp2_with fail
        go_roundw
        case rel => exact ⟨k + 1, d, by omega, by go_num, rfl, by omega, hd2, hR2, hF⟩
        case measure => exact meas n k hlt
    · obtain rfl : n = k := by omega
      have hd2 : Hid (d = os.count x) := by show _ = _; rw [hd.out]; exact hcc.out
      clear hd hc hf hln
      go_wp2_with fail
      go_ret
      refine ⟨by rw [hd2.out]; rfl, _, ?_, hF.out, fun b hb => .inl hb⟩
      have := hR.out
      rw [hlc.out] at this
      exact this
end RefP
end Go.Proofs.YtabkkeeedlnmnaaDoor
