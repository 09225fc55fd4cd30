/- alive; the first of the handles' statements. -/
import Derived.Test.YtoocpofcmnnlfaaHan4
import Derived.Test.YtoocpofcmnnlfaaSameW
namespace Go.Proofs.Ytoocpofcmnnlfaa
open Go.RowKit Go.Shelf Tk
set_option linter.unusedVariables false
set_option linter.unusedSimpArgs false

def aT0 : Tab := tab0 2
def aT1 : Tab := aT0.make.1
def aT2 : Tab := aT1.make.1
def aT3 : Tab := aT2.make.1
def aT4 : Tab := aT3.drop 256
def aT5 : Tab := aT4.drop 256
def aT6 : Tab := aT5.make.1
set_option maxRecDepth 100000 in
set_option maxHeartbeats 4000000 in
theorem alive_any (w : World) : Calls Try.prog 14 #[] w fun e w' => e = .returned (.bool true) ∧ w.grownBy w' none := by
  have o0 : (aT0).ok := tab0_ok (by decide) (by decide)
  have o1 : (aT1).ok := Tab.ok_make o0
  have o2 : (aT2).ok := Tab.ok_make o1
  have o3 : (aT3).ok := Tab.ok_make o2
  have o4 : (aT4).ok := Tab.ok_drop o3 256
  have o5 : (aT5).ok := Tab.ok_drop o4 256
  have o6 : (aT6).ok := Tab.ok_make o5
  have m0 := Lib.hid (show (aT0).make = (aT1, 256, 0) by kernel_rfl)
  have m1 := Lib.hid (show (aT1).make = (aT2, 257, 0) by kernel_rfl)
  have m2 := Lib.hid (show (aT2).make = (aT3, 0, 3) by kernel_rfl)
  have m5 := Lib.hid (show (aT5).make = (aT6, 512, 0) by kernel_rfl)
  have p3 := Lib.hid (show ((aT3).place 256).2 = 0 by kernel_rfl)
  have p4 := Lib.hid (show ((aT4).place 256).2 = 6 by kernel_rfl)
  have p5 := Lib.hid (show (aT5).place 256 = (0, 6) by kernel_rfl)
  have p6 := Lib.hid (show (aT6).place 512 = (0, 0) by kernel_rfl)
  have q6 := Lib.hid (show (aT6).place 0 = (0, 5) by kernel_rfl)
  have r6 := Lib.hid (show (aT6).place 513 = (0, 5) by kernel_rfl)
  have l6 := Lib.hid (show (aT6).list = [512, 257] by kernel_rfl)
  have d3 : Hid ((aT3).drop 256 = aT4) := rfl
  have d4 : Hid ((aT4).drop 256 = aT5) := rfl
  have a6 : Hid (∀ i, (aT6).age i ≤ 16777215) := o6.1
  have n6 : Hid ((aT6).many ≤ 256) := o6.2.2
  have hN := new_any 2 (by decide) (by decide) w
  rw [show (tab0 2).v = aT0.v from rfl] at hN
  have o0 := Lib.hid o0; have o1 := Lib.hid o1; have o2 := Lib.hid o2; have o3 := Lib.hid o3; have o4 := Lib.hid o4; have o5 := Lib.hid o5; have o6 := Lib.hid o6
  generalize aT0 = t0 at *; generalize aT1 = t1 at *; generalize aT2 = t2 at *; generalize aT3 = t3 at *; generalize aT4 = t4 at *; generalize aT5 = t5 at *; generalize aT6 = t6 at *
  have hN := Lib.hid hN
  go_enter Try.func14, Try.ntmps14
  go_wp2_with fail
  refine hN.out.mono ?_; rintro e wa ⟨rfl, hA, hg, hsz⟩
  go_wp2_with fail
  refine (new_bad 257 (.inr (by decide)) _).mono ?_; rintro e w' ⟨rfl, rfl⟩
  go_wp2_with fail
  refine (make_is t0 t1 256 0 o0.out m0.out _ _ hA).mono ?_; rintro e w1 ⟨rfl, hA1, g1⟩
  go_wp2_with fail
  refine (make_is t1 t2 257 0 o1.out m1.out _ _ hA1).mono ?_; rintro e w2 ⟨rfl, hA2, g2⟩
  go_wp2_with fail
  refine (make_is t2 t3 0 3 o2.out m2.out _ _ hA2).mono ?_; rintro e w3 ⟨rfl, hA3, g3⟩
  go_wp2_with fail
  refine (drop_is t3 t4 256 0 o3.out p3.out d3.out _ _ rfl (by decide) _ hA3).mono ?_; rintro e w4 ⟨rfl, hA4, g4⟩
  go_wp2_with fail
  refine (drop_is t4 t5 256 6 o4.out p4.out d4.out _ _ rfl (by decide) _ hA4).mono ?_; rintro e w5 ⟨rfl, hA5, g5⟩
  go_wp2_with fail
  refine (place_is t5 256 0 6 o5.out p5.out _ _ rfl (by decide) _ hA5).mono ?_; rintro e w6 ⟨rfl, g6⟩
  have hA6 := hA5.kept g6 (by simp)
  go_wp2_with fail
  refine (make_is t5 t6 512 0 o5.out m5.out _ _ hA6).mono ?_; rintro e w7 ⟨rfl, hA7, g7⟩
  go_wp2_with fail
  refine (place_is t6 512 0 0 o6.out p6.out _ _ rfl (by decide) _ hA7).mono ?_; rintro e w8 ⟨rfl, g8⟩
  have hA8 := hA7.kept g8 (by simp)
  go_wp2_with fail
  refine (place_is t6 0 0 5 o6.out q6.out _ _ rfl (by decide) _ hA8).mono ?_; rintro e w9 ⟨rfl, g9⟩
  have hA9 := hA8.kept g9 (by simp)
  go_wp2_with fail
  refine (place_is t6 513 0 5 o6.out r6.out _ _ rfl (by decide) _ hA9).mono ?_; rintro e wb ⟨rfl, gb⟩
  have hAb := hA9.kept gb (by simp)
  go_wp2_with fail
  refine (list_any t6 a6.out n6.out _ _ hAb).mono ?_; rw [l6.out]; rintro e wc ⟨A, c, rfl, hc, hs, gc⟩
  go_wp2_with fail
  refine (sameWords_any _ _ _ _ _ _ _ _ [512, 257] [512, 257] _ hc (by decide) (by decide) (by decide) (hs.alloc _) (SlA.made _ _ _ _ _ rfl)).mono ?_; rintro e wd ⟨rfl, n, rfl⟩
  go_wp2_with fail
  go_ret
  have s1 := Nat.le_refl w.heap.size
  exact ⟨rfl, grown_drewN (grown_alloc (grown_trans (grown_trans (grown_trans (grown_trans (grown_step (grown_trans (grown_step (grown_step (grown_step (grown_step (grown_step hg g1 s1) g2 s1) g3 s1) g4 s1) g5 s1) g6) g7 s1) g8) g9) gb) gc) _) _⟩
end Go.Proofs.Ytoocpofcmnnlfaa
