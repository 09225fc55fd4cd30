/- Queues: alive. -/
import Derived.Test.YtekcalpoghcefaaQue2
import Derived.Test.YtekcalpoghcefaaSameW
namespace Go.Proofs.Ytekcalpoghcefaa
open Go.RowKit Go.Shelf Tk
set_option linter.unusedVariables false
set_option linter.unusedSimpArgs false

set_option maxRecDepth 100000 in
set_option maxHeartbeats 4000000 in
theorem alive_any (w : World) : Calls Try.prog 14 #[] w fun e w' => e = .returned (.bool true) ∧ w.grownBy w' none := by
  go_enter Try.func14, Try.ntmps14
  go_wp2_with fail
  refine (new_ok 3 (by decide) (by decide) _).mono ?_; rintro e wa ⟨rfl, hQ, hg, hsz⟩
  obtain ⟨B, hB⟩ : ∃ B, w.heap.size ≤ B ∧ w.heap.size = B := ⟨_, Nat.le_refl _, rfl⟩
  rw [hB.2] at hQ ⊢
  replace hB := hB.1
  go_wp2_with fail
  refine (new_bad 65 (.inr (by decide)) _).mono ?_; rintro e w' ⟨rfl, rfl⟩
  go_wp2_with fail
  refine (put_ok 5 _ hQ (by decide)).mono ?_; rintro e w1 ⟨rfl, ⟨c1, hQ1⟩, g1⟩
  go_wp2_with fail
  refine (put_ok 5 _ hQ1 (by decide)).mono ?_; rintro e w2 ⟨rfl, ⟨c2, hQ2⟩, g2⟩
  go_wp2_with fail
  refine (push_ok 4 _ hQ2 (by decide)).mono ?_; rintro e w3 ⟨rfl, ⟨f3, c3, hQ3⟩, g3⟩
  go_wp2_with fail
  refine (put_no _ _ 10 (by decide) _ (room_full _ hQ3 rfl)).mono ?_; rintro e w4 ⟨rfl, g4⟩
  have hQ4 := hQ3.keep g4
  go_wp2_with fail
  refine (list_ok _ hQ4).mono ?_; rintro e w5 ⟨A, k, rfl, hk, hM, g5⟩
  have hQ5 := hQ4.keep g5
  go_wp2_with fail
  refine (sameWords_any _ _ _ _ _ _ _ _ [4, 5, 5] [4, 5, 5] (w5.alloc (.cells #[.int .u32 4, .int .u32 5, .int .u32 5] 22)) hk (by decide) (by decide) (by decide) (hM.sl.alloc _) (SlA.made _ _ _ _ _ rfl)).mono ?_; rintro e wd ⟨rfl, n, rfl⟩
  have g6 := grown_drewN (World.grownBy_alloc w5 (.cells #[.int .u32 4, .int .u32 5, .int .u32 5] 22) none) n
  have hQ6 : Que _ B 3 [4, 5, 5] f3 c3 := hQ5.keep g6
  obtain ⟨w6, hw6⟩ : ∃ w6, (w5.alloc (.cells #[.int .u32 4, .int .u32 5, .int .u32 5] 22)).drewN n = w6 := ⟨_, rfl⟩
  rw [hw6] at hQ6 g6 ⊢
  go_wp2_with fail
  refine (peek_ok _ hQ6).mono ?_; rintro e w' ⟨rfl, n, rfl⟩
  have g7 : w6.grownBy (w6.drewN n) none := grown_drewN (grown_refl _ _) n
  have hQ7 := hQ6.keep g7
  obtain ⟨w7, hw7⟩ : ∃ w7, w6.drewN n = w7 := ⟨_, rfl⟩
  rw [hw7] at hQ7 g7 ⊢
  go_wp2_with fail
  refine (take_ok _ hQ7).mono ?_; rintro e w8 ⟨rfl, ⟨f8, hQ8⟩, g8⟩
  go_wp2_with fail
  refine (take_ok _ hQ8).mono ?_; rintro e w9 ⟨rfl, ⟨f9, hQ9⟩, g9⟩
  go_wp2_with fail
  refine (take_ok _ hQ9).mono ?_; rintro e wb ⟨rfl, ⟨fb, hQb⟩, gb⟩
  go_wp2_with fail
  refine (take_no _ 11 (by decide) _ (peek_empty _ hQb)).mono ?_; rintro e w' ⟨rfl, rfl⟩
  go_wp2_with fail
  go_ret
  exact ⟨rfl, grown_step (grown_step (grown_step (grown_trans (grown_trans (grown_trans (grown_trans (grown_step (grown_step (grown_step hg g1 hB) g2 hB) g3 hB) g4) g5) g6) g7) g8 hB) g9 hB) gb hB⟩
end Go.Proofs.Ytekcalpoghcefaa
