/- Regions: alive. -/
import Derived.Test.YteiepkkebjbepaaReg2
namespace Go.Proofs.Yteiepkkebjbepaa
open Go.RowKit Go.Shelf Tk
set_option linter.unusedVariables false
set_option linter.unusedSimpArgs false

theorem no_out (B M : Nat) (xs : List Int) (a m : Nat) (x : Int) (hx : x = a) (ha : a < 4294967296) (hm : m ≤ 4) (h : xs.length < a + m) (hl : xs.length ≤ 4096) (w : World) (hR : Reg w B M xs) : NoPart (.pointer (some ⟨B, 0, none⟩)) (.int .u32 x) m 4 w := by
  subst hx; exact part_out B M xs a m ha hm h hl w hR
/-- Word, its answer known. -/
theorem word_is (B M : Nat) (xs : List Int) (a : Nat) (x v : Int) (hx : x = a) (h : a + 4 ≤ xs.length) (hl : xs.length ≤ 4096) (w : World) (hR : Reg w B M xs) (hv : wd xs a 4 = v) :
    Calls Try.prog 9 #[.pointer (some ⟨B, 0, none⟩), .int .u32 x] w fun e w' => e = .returned (.tuple #[.int .u32 v, .int .i64 0]) ∧ w = w' := by
  subst hx hv; exact word_ok B M xs a h hl w hR
theorem setWord_is (B M : Nat) (xs ys : List Int) (a : Nat) (x v : Int) (hx : x = a) (hv : 0 ≤ v ∧ v < 4294967296) (h : a + 4 ≤ xs.length) (hl : xs.length ≤ 4096) (w : World) (hR : Reg w B M xs) (hy : put xs a (wordBytes v) = ys) :
    Calls Try.prog 11 #[.pointer (some ⟨B, 0, none⟩), .int .u32 x, .int .u32 v] w fun x w' => x = .returned (.int .i64 0) ∧ Reg w' B M ys ∧ w.grownBy w' (some M) := by
  subst hx hy; exact setWord_ok B M xs a v hv h hl w hR
set_option maxRecDepth 100000 in
set_option maxHeartbeats 4000000 in
theorem alive_any (w : World) : Calls Try.prog 14 #[] w fun e w' => e = .returned (.bool true) ∧ w.grownBy w' none := by
  have hs5 := SlA.made w .u8 [1, 2, 3, 4, 5] #[.int .u8 1, .int .u8 2, .int .u8 3, .int .u8 4, .int .u8 5] 5 rfl
  have hgA := World.grownBy_alloc w (.cells #[.int .u8 1, .int .u8 2, .int .u8 3, .int .u8 4, .int .u8 5] 5) none
  have hf5 : ∀ i, i < [1, 2, 3, 4, (5:Int)].length → 0 ≤ gd [1, 2, 3, 4, (5:Int)] i ∧ gd [1, 2, 3, 4, (5:Int)] i < 256 := by decide
  have hNew := Lib.hid (new_ok 6 (by decide) _ 5 [1, 2, 3, 4, 5] (by decide) hf5 _ _ _ hs5)
  clear hs5 hf5
  go_enter Try.func14, Try.ntmps14
  go_wp2_with fail
  refine hNew.out.mono ?_; rintro e w1 ⟨B, M, rfl, hR, hM, hB, hg1⟩
  have hR : Reg w1 B M [1, 2, 3, 4, 5, 0] := hR
  have hg1 := grown_trans hgA hg1
  have hMw : w.heap.size ≤ M := Nat.le_trans (by simp) hM
  clear hgA hNew hM hB
  go_wp2_with fail
  refine (new_bad (-1) none 0 0 (by decide) (.inl (by decide)) _).mono ?_; rintro e w' ⟨rfl, rfl⟩
  go_wp2_with fail
  refine (new_bad 4097 none 0 0 (by decide) (.inr (.inl (by decide))) _).mono ?_; rintro e w' ⟨rfl, rfl⟩
  go_wp2_with fail
  refine (new_bad 1 _ 2 2 (by decide) (.inr (.inr (by decide))) _).mono ?_; rintro e w' ⟨rfl, rfl⟩
  have hR := hR.keep (World.grownBy_alloc w1 (.cells #[.int .u8 1, .int .u8 2] 5) none)
  have hg1 := grown_alloc hg1 (.cells #[.int .u8 1, .int .u8 2] 5)
  obtain ⟨w2, hw2⟩ : ∃ w2, w1.alloc (.cells #[.int .u8 1, .int .u8 2] 5) = w2 := ⟨_, rfl⟩
  rw [hw2] at hR hg1 ⊢
  clear hw2
  go_wp2_with fail
  refine (word_is B M _ 2 _ 50595072 rfl (by decide) (by decide) _ hR rfl).mono ?_; rintro e w' ⟨rfl, rfl⟩
  go_wp2_with fail
  refine (word_no _ _ 4 _ (no_out B M _ 3 4 _ rfl (by decide) (by decide) (by decide) (by decide) _ hR)).mono ?_; rintro e w' ⟨rfl, rfl⟩
  go_wp2_with fail
  refine (byte_no _ _ 4 (by decide) _ (no_out B M _ 6 1 _ rfl (by decide) (by decide) (by decide) (by decide) _ hR)).mono ?_; rintro e w' ⟨rfl, rfl⟩
  go_wp2_with fail
  refine (word_no _ _ 4 _ (no_out B M _ 4294967294 4 _ rfl (by decide) (by decide) (by decide) (by decide) _ hR)).mono ?_; rintro e w' ⟨rfl, rfl⟩
  go_wp2_with fail
  refine (setWord_is B M _ [1, 10, 11, 12, 13, 0] 1 _ 168496141 rfl (by decide) (by decide) (by decide) _ hR rfl).mono ?_; rintro e w3 ⟨rfl, hR3, hg3⟩
  have hg4 := grown_step hg1 hg3 hMw
  go_wp2_with fail
  refine (bytes_ok B M _ (by decide) _ hR3).mono ?_; rintro e w4 ⟨A, c, rfl, hc, hm, hg5⟩
  have hR4 := hR3.keep hg5
  have hg6 := grown_trans hg4 hg5
  go_wp2_with fail
  refine (sameBytes_any _ _ _ _ _ _ _ _ [1, 10, 11, 12, 13, 0] [1, 10, 11, 12, 13, 0] _ hc (by decide) (by decide) (by decide) (hm.sl.alloc _) (SlA.made _ _ _ _ _ rfl)).mono ?_; rintro e wd ⟨rfl, n, rfl⟩
  have hR5 := hR4.keep (grown_drewN (World.grownBy_alloc w4 (.cells #[.int .u8 1, .int .u8 10, .int .u8 11, .int .u8 12, .int .u8 13, .int .u8 0] 5) none) n)
  have hg7 := grown_drewN (grown_alloc hg6 (.cells #[.int .u8 1, .int .u8 10, .int .u8 11, .int .u8 12, .int .u8 13, .int .u8 0] 5)) n
  go_wp2_with fail
  refine (setByte_no _ _ _ 4 _ (no_out B M _ 6 1 _ rfl (by decide) (by decide) (by decide) (by decide) _ hR5)).mono ?_; rintro e w5 ⟨rfl, hg8⟩
  go_wp2_with fail
  go_ret
  exact ⟨rfl, grown_trans hg7 hg8⟩
end Go.Proofs.Yteiepkkebjbepaa
