/- ObjectsKeep: a semaphore has what it had, and what was given, less what was taken. -/
import Derived.Test.YtneamjaglgnmkaaObS
import Derived.Test.YtneamjaglgnmkaaVrw
namespace Go.Proofs.Ytneamjaglgnmkaa
open Go.RowKit Go.Shelf Tk
set_option linter.unusedVariables false
set_option linter.unusedSimpArgs false
theorem see_n (k : Nat) (a b n o : Int) (row owners : Value) (w : World) : (Instr.field 39 (thV k a b n o row owners) 2).run Try.prog w = .ok (.int .u32 n) w := by kernel_rfl
theorem meas_k (n k : Nat) (h : k < n) : n - (intOf (.int .i64 ((k : Int) + 1))).toNat < n - (intOf (.int .i64 (k : Int))).toNat := by simp [intOf]; omega
set_option maxRecDepth 100000 in
set_option maxHeartbeats 8000000 in
theorem objectsKeep_walk (a : Int) (wa : (Lit.int .u32 a).wf = true) (b : Int) (wb : (Lit.int .u32 b).wf = true) (A : Option Addr) (c n : Nat) (V : Nat → Nat → Value) (hl : n ≤ c) (w : World)
    (hs : VRow w 1 A n V) (hf : ∀ i, i < n → ∀ q, q < 1 → Fit (([none] : List (Option IntKind)).getD q none) (V i q)) (hbd : n * 1 ≤ 140737488351232) :
    Calls Try.prog 3 #[.int .u32 a, .int .u32 b, .slice A n c] w fun e w' => e = .returned (.bool true) ∧ w.grownBy w' none := by
  obtain ⟨a0, a1⟩ := wf_u32 wa
  obtain ⟨b0, b1⟩ := wf_u32 wb
  clear wa wb
  by_cases hok : a ≤ b ∧ 1 ≤ b ∧ b ≤ 1073741824
  · obtain ⟨h1, h2, h3⟩ := hok
    have hc := Lib.hid (new_count a b h1 h2 h3 w)
    replace hs := Lib.hid hs
    replace hf := Lib.hid hf
    by_cases hn : n ≤ 300
    · go_enter Try.func3, Try.ntmps3
      go_wp2_with (go_at_call 6; refine hc.out.mono ?_; rintro e w1 ⟨p, q, rfl, hd, cb, hp, hq, hne, hg⟩; replace hd := Lib.hid (Cnt.mk hd cb hne); replace hg := Lib.hid hg; clear hc cb)
      go_loopw [9, 10] (fun m i wr => ∃ (k : Nat) (x : Int), k ≤ n ∧ i = .int .i64 k ∧ m = .int .u32 x ∧ Hid (0 ≤ x ∧ x ≤ b) ∧ Hid (Cnt wr p q a x b) ∧ Hid (w.grownBy wr none)) (fun _ i _ => n - (intOf i).toNat)
      case atStart => exact ⟨0, a, Nat.zero_le _, rfl, rfl, ⟨a0, h1⟩, hd, hg⟩
      case round =>
        obtain ⟨k, x, hk, rfl, rfl, hx, hdr, hgr⟩ := hrel
        obtain ⟨hx0, hxb⟩ := hx.out
        clear hx
        clear hd hg
        by_cases hlt : k < n
        · obtain ⟨gb, o, rfl, hgb, hcs⟩ := (hs.out.kept hgr.out).at hlt
          have hc := hcs 0 (by decide)
          obtain ⟨tk, htk⟩ : ∃ tk, V k 0 = .bool tk := hf.out k hlt 0 (by decide)
          rw [htk] at hc
          simp only [Nat.mul_one, Nat.add_zero] at hc
          clear htk hcs hgb
          have hsn := see_n
          cases tk
          · by_cases hxm : x < b
            · have hw1 : IntKind.u32.wrap (x + 1) = x + 1 := by rw [IntKind.wrap_u32]; omega
              go_wp2_with (go_at_call 8; refine (hdr.out.give ⟨hxm, hx0, b1⟩ 1 (by decide) 0 0 0 0).mono ?_; rintro e w2 ⟨rfl, hd2, hg2⟩)
              replace hd2 := Lib.hid hd2
              replace hg2 := Lib.hid (grown_step hgr.out hg2 hq)
              clear hdr hgr
              go_wp2_with (go_at_call 9; refine hd2.out.see.mono ?_; rintro e w3 ⟨rfl, hg3⟩; replace hd2 := Lib.hid (hd2.out.keep hg3); replace hg2 := Lib.hid (grown_trans hg2.out hg3); clear hg3)
              go_roundw
              case rel => exact ⟨k + 1, x + 1, by omega, by go_num, rfl, ⟨by omega, by omega⟩, hd2, hg2⟩
              case measure => exact meas_k n k hlt
            · have hxm' : b ≤ x := by omega
              go_wp2_with (go_at_call 8; refine (hdr.out.give_no (by omega) 1 (by decide) 0 0 0 0).mono ?_; rintro e w2 ⟨rfl, hd2, hg2⟩)
              replace hd2 := Lib.hid hd2
              replace hg2 := Lib.hid (grown_trans hgr.out hg2)
              clear hdr hgr
              go_wp2_with (go_at_call 9; refine hd2.out.see.mono ?_; rintro e w3 ⟨rfl, hg3⟩; replace hd2 := Lib.hid (hd2.out.keep hg3); replace hg2 := Lib.hid (grown_trans hg2.out hg3); clear hg3)
              go_roundw
              case rel => exact ⟨k + 1, x, by omega, by go_num, rfl, ⟨by omega, by omega⟩, hd2, hg2⟩
              case measure => exact meas_k n k hlt
          · by_cases hxm : 0 < x
            · have hw1 : IntKind.u32.wrap (x - 1) = x - 1 := by rw [IntKind.wrap_u32]; omega
              go_wp2_with (go_at_call 8; refine (hdr.out.take ⟨by omega, by omega⟩ 1 (by decide) 0 0 0 0).mono ?_; rintro e w2 ⟨rfl, hd2, hg2⟩)
              replace hd2 := Lib.hid hd2
              replace hg2 := Lib.hid (grown_step hgr.out hg2 hq)
              clear hdr hgr
              go_wp2_with (go_at_call 9; refine hd2.out.see.mono ?_; rintro e w3 ⟨rfl, hg3⟩; replace hd2 := Lib.hid (hd2.out.keep hg3); replace hg2 := Lib.hid (grown_trans hg2.out hg3); clear hg3)
              go_roundw
              case rel => exact ⟨k + 1, x - 1, by omega, by go_num, rfl, ⟨by omega, by omega⟩, hd2, hg2⟩
              case measure => exact meas_k n k hlt
            · have hxm' : x ≤ 0 := by omega
              go_wp2_with (go_at_call 8; refine (hdr.out.take_no (by omega) 1 (by decide) 0 0 0 0).mono ?_; rintro e w2 ⟨rfl, hd2, hg2⟩)
              replace hd2 := Lib.hid hd2
              replace hg2 := Lib.hid (grown_trans hgr.out hg2)
              clear hdr hgr
              go_wp2_with (go_at_call 9; refine hd2.out.see.mono ?_; rintro e w3 ⟨rfl, hg3⟩; replace hd2 := Lib.hid (hd2.out.keep hg3); replace hg2 := Lib.hid (grown_trans hg2.out hg3); clear hg3)
              go_roundw
              case rel => exact ⟨k + 1, x, by omega, by go_num, rfl, ⟨by omega, by omega⟩, hd2, hg2⟩
              case measure => exact meas_k n k hlt
        · obtain rfl : k = n := by omega
          go_wp2_with (go_at_call 7; refine (lives_ok _).mono ?_; rintro e w2 ⟨rfl, hg2⟩; replace hg2 := Lib.hid (grown_trans hgr.out hg2))
          go_ret
          exact ⟨rfl, hg2.out⟩
    · have hn' : 300 < n := by omega
      go_enter Try.func3, Try.ntmps3
      go_wp2_with (first
        | (go_at_call 6; refine hc.out.mono ?_; rintro e w1 ⟨p, q, rfl, hd, cb, hp, hq, hne, hg⟩; replace hg := Lib.hid hg; clear hc cb hd)
        | (go_at_call 7; refine (lives_ok _).mono ?_; rintro e w2 ⟨rfl, hg2⟩; replace hg2 := Lib.hid (grown_trans hg.out hg2)))
      go_ret
      exact ⟨rfl, hg2.out⟩
  · have hno : b < a ∨ a ≤ b ∧ b < 1 ∨ a ≤ b ∧ 1 ≤ b ∧ 1073741824 < b := by omega
    have hc := Lib.hid (new_count_no a b hno w)
    rcases hno with h | ⟨h1, h2⟩ | ⟨h1, h2, h3⟩
    all_goals
      go_enter Try.func3, Try.ntmps3
      go_wp2_with (first
        | (go_at_call 6; refine hc.out.mono ?_; rintro e w1 ⟨rfl, hg⟩; replace hg := Lib.hid hg; clear hc)
        | (go_at_call 7; refine (lives_ok _).mono ?_; rintro e w2 ⟨rfl, hg2⟩; replace hg2 := Lib.hid (grown_trans hg.out hg2)))
      go_ret
      exact ⟨rfl, hg2.out⟩
end Go.Proofs.Ytneamjaglgnmkaa
