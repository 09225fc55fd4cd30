/- timekeeperref04: SetWord where it may be. -/
import Derived.Test.YtabkkeeedlnmnaaDoorRegRef2
namespace Go.Proofs.YtabkkeeedlnmnaaDoor
open Go.RowKit Go.Shelf Tk
set_option linter.unusedVariables false
set_option linter.unusedSimpArgs false
namespace RefR
variable {w w' : World} {R m : Nat} {v : Value} {os : List Int}
def dv (x : Int) : Nat → Int
  | 0 => x
  | k + 1 => dv x k / 256
/-- The bytes, k of the number's four written, the lowest first. -/
def sw (os : List Int) (a : Nat) (x : Int) : Nat → List Int
  | 0 => os
  | k + 1 => (sw os a x k).set (a + 3 - k) (dv x k % 256)
theorem sw_len (os : List Int) (a : Nat) (x : Int) : ∀ k, (sw os a x k).length = os.length
  | 0 => rfl
  | k + 1 => by show ((sw os a x k).set _ _).length = _; rw [List.length_set]; exact sw_len os a x k
theorem dv_fit (x : Int) (h0 : 0 ≤ x) (h1 : x ≤ 4294967295) : ∀ k, 0 ≤ dv x k ∧ dv x k ≤ 4294967295
  | 0 => ⟨h0, h1⟩
  | k + 1 => by have := dv_fit x h0 h1 k; show 0 ≤ dv x k / 256 ∧ dv x k / 256 ≤ _; omega
set_option maxRecDepth 100000 in
theorem setWord_ok (h : RQ w R m v os) (a : Nat) (ha : a + 4 ≤ os.length) (x : Int) (hx0 : 0 ≤ x) (hx1 : x ≤ 4294967295) : Calls Tryd.prog 32 #[.pointer (some ⟨R, 0, none⟩), .int .u32 a, .int .u32 x] w fun e w' => e = .returned (.int .i64 0) ∧ Post w R m v (sw os a x 4) w' := by
  have hdv := Lib.hid (dv_fit x hx0 hx1)
  obtain ⟨n, hn⟩ : ∃ n, os.length = n := ⟨_, rfl⟩
  obtain ⟨M, rfl, -, -, c0, h64⟩ := h.open hn
  rw [hn] at ha
  have p1 : decide ((n : Int) < (a : Int) + 4) = false := decide_eq_false (by omega)
  have p3 : (a : Int) + 4 ≤ 4096 := by omega
  have p5 : (a : Int) + 4 ≤ (n : Int) := by omega
  have p4 : (0 : Int) ≤ (a : Int) := Int.natCast_nonneg _
  replace hn := Lib.hid hn
  replace h := Lib.hid h
  go_enter Tryd.func32, Tryd.ntmps32
  go_wp2_with fail
  clear c0
  go_loopw [2, 7] (fun c i wr => ∃ (k : Nat) (y : Int), k ≤ 4 ∧ i = .int .u32 k ∧ c = .int .u32 y ∧ Hid (y = dv x k) ∧ Hid (RQ wr R m (.slice (some ⟨M, 0, none⟩) n n) (sw os a x k)) ∧ Hid (Fr (OwnQ R (.slice (some ⟨M, 0, none⟩) n n)) w wr)) (fun _ i _ => 4 - (intOf i).toNat)
  case atStart => exact ⟨0, x, Nat.zero_le _, rfl, rfl, rfl, h.out, Fr.refl _ _⟩
  case round =>
    obtain ⟨k, y, hk, rfl, rfl, hy, hR, hF⟩ := hrel
    clear h
    have hln : (sw os a x k).length = n := by rw [sw_len]; exact hn.out
    obtain ⟨M', e, hc, hf, c0, -⟩ := hR.out.open hln
    cases e
    by_cases hlt : k < 4
    · obtain ⟨j, hj⟩ : ∃ j, a + 3 - k = j := ⟨_, rfl⟩
      have hjI : (a : Int) + 3 - (k : Int) = (j : Int) := by omega
      have q := hc j (by omega)
      have qf := hf j
      have hyb := hdv.out k
      rw [← hy.out] at hyb
      obtain ⟨hy0, hy1⟩ := hyb
      have hy2 : Hid (y / 256 = dv x (k + 1)) := by show _ = dv x k / 256; rw [← hy.out]
      have hR2 : Hid (RQ (wr.setCell ⟨M, j, none⟩ (.int .u8 (y % 256))) R m (.slice (some ⟨M, 0, none⟩) n n) (sw os a x (k + 1))) := by
        show RQ _ R m _ ((sw os a x k).set (a + 3 - k) (dv x k % 256))
        rw [hj, ← hy.out]; exact hR.out.set hln j _
      have hF2 : Hid (Fr (OwnQ R (.slice (some ⟨M, 0, none⟩) n n)) w (wr.setCell ⟨M, j, none⟩ (.int .u8 (y % 256)))) := hF.out.trans (Fr.of_grown (grownBy_setCell wr M j (.int .u8 (y % 256))) (fun k e _ => by cases e; exact .inr rfl))
      have hk0 : (0 : Int) ≤ (k : Int) := Int.natCast_nonneg _
      have hk3 : (k : Int) ≤ 3 := by omega
      have hjn : (j : Int) < (n : Int) := by omega
      generalize gd (sw os a x k) j = z at *
      replace hj := Lib.hid hj
      clear hy hc hf hln
      go_wp2_with fail
      go_roundw
      case rel => exact ⟨k + 1, y / 256, by omega, by go_num, by go_num, hy2, hR2, hF2⟩
      case measure => exact meas4 k hlt
    · obtain rfl : k = 4 := by omega
      clear hc hf hln
      go_wp2_with fail
      go_ret
      exact ⟨rfl, _, hR.out, hF.out, fun b hb => .inl hb⟩
end RefR
end Go.Proofs.YtabkkeeedlnmnaaDoor
