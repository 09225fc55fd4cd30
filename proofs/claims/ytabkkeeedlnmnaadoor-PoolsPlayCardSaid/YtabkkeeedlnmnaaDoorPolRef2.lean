/- timekeeperref05: the walks of the reference's pool. -/
import Derived.Test.YtabkkeeedlnmnaaDoorPolRef
namespace Go.Proofs.YtabkkeeedlnmnaaDoor
open Go.RowKit Go.Shelf Tk
set_option linter.unusedVariables false
set_option linter.unusedSimpArgs false
namespace RefP
variable {w w' : World} {R m : Nat} {v : Value} {os : List Int}
theorem meas (n k : Nat) (h : k < n) : n - (intOf (.int .i64 ((k : Int) + 1))).toNat < n - (intOf (.int .i64 (k : Int))).toNat := by simp [intOf]; omega
theorem alloc_zero (h : RQ w R m v os) : Calls Tryd.prog 58 #[.pointer (some ⟨R, 0, none⟩), .int .u32 0] w fun e w' => e = .returned (.tuple #[.int .i64 0, .int .i64 1]) ∧ Post w R m v os w' := by
  have hs := Lib.hid (h.same (grown_refl w none))
  clear h
  go_enter Tryd.func58, Tryd.ntmps58
  go_wp2_with fail
  go_ret2
  exact ⟨rfl, hs.out⟩
theorem store_post {M n : Nat} (h : RQ w R m (.slice (some ⟨M, 0, none⟩) n n) os) (hn : os.length = n) (i : Nat) (x : Int) : Post w R m (.slice (some ⟨M, 0, none⟩) n n) (os.set i x) (w.setCell ⟨M, i, none⟩ (.int .u32 x)) :=
  ⟨_, h.set hn i x, Fr.of_grown (grownBy_setCell w M i (.int .u32 x)) (fun k e _ => by cases e; exact .inr rfl), fun b hb => .inl hb⟩
set_option maxRecDepth 100000 in
theorem alloc_full (x : Int) (hx : x ≠ 0) (h : RQ w R m v os) (hno : ∀ i, i < os.length → gd os i ≠ 0) : Calls Tryd.prog 58 #[.pointer (some ⟨R, 0, none⟩), .int .u32 x] w fun e w' => e = .returned (.tuple #[.int .i64 0, .int .i64 11]) ∧ Post w R m v os w' := by
  obtain ⟨n, hn⟩ : ∃ n, os.length = n := ⟨_, rfl⟩
  obtain ⟨M, rfl, hc, hf, c0, h64⟩ := h.open hn
  rw [hn] at hno
  have hs := Lib.hid (h.same (grown_refl w none))
  have x0 : (x == 0) = false := by rw [beq_eq_false_iff_ne]; exact hx
  replace hc := Lib.hid hc
  replace hno := Lib.hid hno
  clear h hn hf hx
  go_enter Tryd.func58, Tryd.ntmps58
  go_wp2_with fail
  go_loopw [6] (fun i wr => ∃ k : Nat, k ≤ n ∧ i = .int .i64 k ∧ wr = w) (fun i _ => n - (intOf i).toNat)
  case atStart => exact ⟨0, Nat.zero_le _, rfl, rfl⟩
  case round =>
    obtain ⟨k, hk, rfl, hww⟩ := hrel
    obtain rfl : w = wr := hww.symm
    by_cases hlt : k < n
    · have q := hc.out k hlt
      have y0 : (gd os k == 0) = false := by rw [beq_eq_false_iff_ne]; exact hno.out k hlt
      generalize gd os k = y at *
      have hkI : (k : Int) < (n : Int) := by omega
      go_wp2_with fail
      go_roundw
      case rel => exact ⟨k + 1, by omega, by go_num, by first | rfl | trivial⟩
      case measure => exact meas n k hlt
    · obtain rfl : n = k := by omega
      go_wp2_with fail
      go_ret2
      exact ⟨rfl, hs.out⟩
set_option maxRecDepth 100000 in
theorem alloc_ok (x : Int) (hx : x ≠ 0) (h : RQ w R m v os) (j : Nat) (hj : j < os.length) (h0 : gd os j = 0) (hmin : ∀ i, i < j → gd os i ≠ 0) : Calls Tryd.prog 58 #[.pointer (some ⟨R, 0, none⟩), .int .u32 x] w fun e w' => e = .returned (.tuple #[.int .i64 j, .int .i64 0]) ∧ Post w R m v (os.set j x) w' := by
  obtain ⟨n, hn⟩ : ∃ n, os.length = n := ⟨_, rfl⟩
  obtain ⟨M, rfl, hc, hf, c0, h64⟩ := h.open hn
  rw [hn] at hj
  have hs := Lib.hid (store_post h hn j x)
  have x0 : (x == 0) = false := by rw [beq_eq_false_iff_ne]; exact hx
  have hfj := hf j
  replace hc := Lib.hid hc
  replace hmin := Lib.hid hmin
  replace h0 := Lib.hid h0
  clear h hn hf hx
  go_enter Tryd.func58, Tryd.ntmps58
  go_wp2_with fail
  go_loopw [6] (fun i wr => ∃ k : Nat, k ≤ j ∧ i = .int .i64 k ∧ wr = w) (fun i _ => j - (intOf i).toNat)
  case atStart => exact ⟨0, Nat.zero_le _, rfl, rfl⟩
  case round =>
    obtain ⟨k, hk, rfl, hww⟩ := hrel
    obtain rfl : w = wr := hww.symm
    have hkI : (k : Int) < (n : Int) := by omega
    by_cases hlt : k < j
    · have q := hc.out k (by omega)
      have y0 : (gd os k == 0) = false := by rw [beq_eq_false_iff_ne]; exact hmin.out k hlt
      generalize gd os k = y at *
      go_wp2_with fail
      go_roundw
      case rel => exact ⟨k + 1, by omega, by go_num, by first | rfl | trivial⟩
      case measure => exact meas j k hlt
    · obtain rfl : j = k := by omega
      have q := hc.out j hj
      rw [h0.out] at q
      go_wp2_with fail
      go_ret2
      exact ⟨rfl, hs.out⟩
theorem free_arg (x b : Int) (hb : x = 0 ∨ b < 0 ∨ (os.length : Int) ≤ b) (h : RQ w R m v os) : Calls Tryd.prog 60 #[.pointer (some ⟨R, 0, none⟩), .int .u32 x, .int .i64 b] w fun e w' => e = .returned (.int .i64 1) ∧ Post w R m v os w' := by
  obtain ⟨n, hn⟩ : ∃ n, os.length = n := ⟨_, rfl⟩
  obtain ⟨M, rfl, hc, hf, c0, h64⟩ := h.open hn
  rw [hn] at hb
  have hs := Lib.hid (h.same (grown_refl w none))
  have hcs : (x == 0) = true ∨ ((x == 0) = false ∧ decide (b < 0) = true) ∨ ((x == 0) = false ∧ decide (b < 0) = false ∧ decide ((n : Int) ≤ b) = true) := by
    simp only [beq_iff_eq, beq_eq_false_iff_ne, decide_eq_true_eq, decide_eq_false_iff_not]; omega
  clear h hn hc hf hb
  rcases hcs with p1 | ⟨p1, p2⟩ | ⟨p1, p2, p3⟩
  all_goals
    go_enter Tryd.func60, Tryd.ntmps60
    go_wp2_with fail
    go_ret
    exact ⟨rfl, hs.out⟩
theorem free_owner (x : Int) (hx : x ≠ 0) (j : Nat) (hj : j < os.length) (hw : gd os j ≠ x) (h : RQ w R m v os) : Calls Tryd.prog 60 #[.pointer (some ⟨R, 0, none⟩), .int .u32 x, .int .i64 j] w fun e w' => e = .returned (.int .i64 13) ∧ Post w R m v os w' := by
  obtain ⟨n, hn⟩ : ∃ n, os.length = n := ⟨_, rfl⟩
  obtain ⟨M, rfl, hc, hf, c0, h64⟩ := h.open hn
  rw [hn] at hj
  have hs := Lib.hid (h.same (grown_refl w none))
  have q := hc j hj
  have p1 : (x == 0) = false := by rw [beq_eq_false_iff_ne]; exact hx
  have p2 : decide ((j : Int) < 0) = false := decide_eq_false (by omega)
  have p3 : decide ((n : Int) ≤ (j : Int)) = false := decide_eq_false (by omega)
  have p4 : (gd os j != x) = true := by rw [bne_iff_ne]; exact hw
  have p5 : (j : Int) < (n : Int) := by omega
  generalize gd os j = y at *
  clear h hn hc hf hx hw
  go_enter Tryd.func60, Tryd.ntmps60
  go_wp2_with fail
  go_ret
  exact ⟨rfl, hs.out⟩
theorem free_ok (x : Int) (hx : x ≠ 0) (j : Nat) (hj : j < os.length) (hw : gd os j = x) (h : RQ w R m v os) : Calls Tryd.prog 60 #[.pointer (some ⟨R, 0, none⟩), .int .u32 x, .int .i64 j] w fun e w' => e = .returned (.int .i64 0) ∧ Post w R m v (os.set j 0) w' := by
  obtain ⟨n, hn⟩ : ∃ n, os.length = n := ⟨_, rfl⟩
  obtain ⟨M, rfl, hc, hf, c0, h64⟩ := h.open hn
  rw [hn] at hj
  have hs := Lib.hid (store_post h hn j 0)
  have q := hc j hj
  have qf := hf j
  rw [hw] at q
  have p1 : (x == 0) = false := by rw [beq_eq_false_iff_ne]; exact hx
  have p2 : decide ((j : Int) < 0) = false := decide_eq_false (by omega)
  have p3 : decide ((n : Int) ≤ (j : Int)) = false := decide_eq_false (by omega)
  have p4 : (x != x) = false := by simp
  have p5 : (j : Int) < (n : Int) := by omega
  clear h hn hc hf hx hw
  go_enter Tryd.func60, Tryd.ntmps60
  go_wp2_with fail
  go_ret
  exact ⟨rfl, hs.out⟩
theorem list_ok (h : RQ w R m v os) : Calls Tryd.prog 64 #[.pointer (some ⟨R, 0, none⟩)] w fun e w' => ∃ u, e = .returned u ∧ Mine w' w.heap.size 22 .u32 u os ∧ w.grownBy w' none := by
  obtain ⟨i0, hi, hz0, hz1, hz2⟩ := info_parts infoWord
  obtain ⟨n, hn⟩ : ∃ n, os.length = n := ⟨_, rfl⟩
  obtain ⟨M, rfl, hc, hf, c0, h64⟩ := h.open hn
  have hsl := Lib.hid h.row.sl
  replace hn := Lib.hid hn
  clear h hc hf
  go_enter Tryd.func64, Tryd.ntmps64
  go_wp2_with (at_builtin; refine wpList_join rfl _ _ 56 rfl w.heap.size 22 i0 Tryd.underlying56 hi hz0 hz1 hz2 (.slice none 0 0) [] (some ⟨M, 0, none⟩) n n 0 w.heap.size os rfl (Mine.nil _ _ _ _) rfl hsl.out hn.out (by omega) (by simp) (Nat.le_refl _) ?_; intro v' w5 hM5 hgrow; obtain ⟨A5, c5, rfl, -⟩ := hM5.form)
  go_ret
  obtain ⟨r, hg, hr⟩ := hgrow
  exact ⟨_, rfl, hM5, ⟨hg.os, hg.tape, hg.output, hg.size, fun k hk _ => hg.block k hk (fun e => by have := hr k e.symm; omega)⟩⟩
set_option maxRecDepth 100000 in
theorem left_ok (h : RQ w R m v os) : Calls Tryd.prog 66 #[.pointer (some ⟨R, 0, none⟩)] w fun e w' => e = .returned (.int .i64 (os.count 0)) ∧ w = w' := by
  obtain ⟨n, hn⟩ : ∃ n, os.length = n := ⟨_, rfl⟩
  obtain ⟨M, rfl, hc, hf, c0, h64⟩ := h.open hn
  have hcl := Lib.hid (cnt_le 0 os)
  have hcc : Hid (cnt 0 os n = os.count 0) := by rw [← hn]; exact cnt_all 0 os
  replace hc := Lib.hid hc
  replace hn := Lib.hid hn
  clear h hf
  go_enter Tryd.func66, Tryd.ntmps66
  go_wp2_with fail
  go_loopw [3, 4] (fun c i wr => ∃ k d : Nat, k ≤ n ∧ i = .int .i64 k ∧ c = .int .i64 d ∧ d ≤ k ∧ Hid (d = cnt 0 os k) ∧ wr = w) (fun _ i _ => n - (intOf i).toNat)
  case atStart => exact ⟨0, 0, Nat.zero_le _, rfl, rfl, Nat.le_refl _, rfl, rfl⟩
  case round =>
    obtain ⟨k, d, hk, rfl, rfl, hdk, hd, hww⟩ := hrel
    obtain rfl : w = wr := hww.symm
    by_cases hlt : k < n
    · have q := hc.out k hlt
      have hkI : (k : Int) < (n : Int) := by omega
      by_cases h0 : gd os k = 0
      · have hd2 : Hid (d + 1 = cnt 0 os (k + 1)) := by show _ = _; rw [cnt_succ_eq (by rw [hn.out]; exact hlt) h0, ← hd.out]
        rw [h0] at q
        clear h0
        go_wp2_with fail
        go_roundw
        case rel => exact ⟨k + 1, d + 1, by omega, by go_num, by go_num, by omega, hd2, by first | rfl | trivial⟩
        case measure => exact meas n k hlt
      · have hd2 : Hid (d = cnt 0 os (k + 1)) := by show _ = _; rw [cnt_succ_ne (by rw [hn.out]; exact hlt) h0, ← hd.out]
        have y0 : (gd os k == 0) = false := by rw [beq_eq_false_iff_ne]; exact h0
        generalize gd os k = y at *
        clear h0
        go_wp2_with fail
        go_roundw
        case rel => exact ⟨k + 1, d, by omega, by go_num, rfl, by omega, hd2, by first | rfl | trivial⟩
        case measure => exact meas n k hlt
    · obtain rfl : n = k := by omega
      have hd2 : Hid (d = os.count 0) := by show _ = _; rw [hd.out]; exact hcc.out
      clear hd
      go_wp2_with fail
      go_ret
      exact ⟨by rw [hd2.out]; rfl, rfl⟩
end RefP
end Go.Proofs.YtabkkeeedlnmnaaDoor
