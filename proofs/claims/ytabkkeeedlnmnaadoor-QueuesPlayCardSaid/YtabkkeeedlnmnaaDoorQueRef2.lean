/- timekeeperref11: the walks of the reference's queue. -/
import Derived.Test.YtabkkeeedlnmnaaDoorQueRef
namespace Go.Proofs.YtabkkeeedlnmnaaDoor
open Go.RowKit Go.Shelf Tk
set_option linter.unusedVariables false
set_option linter.unusedSimpArgs false
namespace RefQ
variable {w w' : World} {R m : Nat} {v : Value} {ms : List Int}
theorem new_ok (m : Nat) (h1 : 1 ≤ m) (h2 : m ≤ 64) (w : World) :
    Calls Tryd.prog 44 #[.int .i64 m] w fun e w' => e = .returned (.tuple #[.pointer (some ⟨w.heap.size, 0, none⟩), .int .i64 0]) ∧ RQ w' w.heap.size m (.slice none 0 0) [] ∧ w.grownBy w' none ∧ w'.heap.size = w.heap.size + 1 := by
  have q1 : decide ((m : Int) < 1) = false := decide_eq_false (by omega)
  have q2 : decide ((64 : Int) < (m : Int)) = false := decide_eq_false (by omega)
  have hA := Arr.new w #[.slice none 0 0, .int .i64 m] 134 2 (rqv (.slice none 0 0) m) rfl (fun i hi => by
    rcases (by omega : i = 0 ∨ i = 1) with rfl | rfl <;> rfl)
  have hg := World.grownBy_alloc w (.cells #[.slice none 0 0, .int .i64 m] 134) none
  go_enter Tryd.func44, Tryd.ntmps44
  go_wp2_with fail
  go_ret2
  exact ⟨rfl, ⟨hA, .inl ⟨rfl, rfl⟩, by simp [Value.ownBlock]⟩, hg, by simp⟩
theorem new_bad (m : Int) (h : m < 1 ∨ 64 < m) (w : World) :
    Calls Tryd.prog 44 #[.int .i64 m] w fun e w' => e = .returned (.tuple #[.pointer none, .int .i64 1]) ∧ w = w' := by
  by_cases h1 : m < 1
  · have q1 : decide (m < 1) = true := decide_eq_true h1
    go_enter Tryd.func44, Tryd.ntmps44
    go_wp2_with fail
    go_ret2
    exact ⟨rfl, rfl⟩
  · have q1 : decide (m < 1) = false := decide_eq_false h1
    have q2 : decide (64 < m) = true := decide_eq_true (by omega)
    go_enter Tryd.func44, Tryd.ntmps44
    go_wp2_with fail
    go_ret2
    exact ⟨rfl, rfl⟩
theorem put_full (x : Int) (h : RQ w R m v ms) (hm : ms.length = m) (h64 : m ≤ 64) : Calls Tryd.prog 46 #[.pointer (some ⟨R, 0, none⟩), .int .u32 x] w fun e w' => e = .returned (.int .i64 10) ∧ w.grownBy w' none := by
  obtain ⟨A, c, rfl, -⟩ := h.sl.form
  have c0 := h.c0
  have c1 := h.c1
  obtain ⟨n, hn⟩ : ∃ n, ms.length = n := ⟨_, rfl⟩
  rw [hn] at c0 hm
  subst hm
  have q1 : ((n : Int) == (n : Int)) = true := by simp
  have hG := Lib.hid (grown_drewN (grown_refl w none))
  clear h hn
  go_enter Tryd.func46, Tryd.ntmps46
  go_wp2_with fail
  go_quiet (fail)
  go_wp2_with fail
  go_ret
  exact ⟨rfl, hG.out _⟩
theorem push_full (x : Int) (h : RQ w R m v ms) (hm : ms.length = m) (h64 : m ≤ 64) : Calls Tryd.prog 48 #[.pointer (some ⟨R, 0, none⟩), .int .u32 x] w fun e w' => e = .returned (.int .i64 10) ∧ w.grownBy w' none := by
  obtain ⟨A, c, rfl, -⟩ := h.sl.form
  have c0 := h.c0
  have c1 := h.c1
  obtain ⟨n, hn⟩ : ∃ n, ms.length = n := ⟨_, rfl⟩
  rw [hn] at c0 hm
  subst hm
  have q1 : ((n : Int) == (n : Int)) = true := by simp
  have hG := Lib.hid (grown_drewN (grown_refl w none))
  clear h hn
  go_enter Tryd.func48, Tryd.ntmps48
  go_wp2_with fail
  go_quiet (fail)
  go_wp2_with fail
  go_ret
  exact ⟨rfl, hG.out _⟩
set_option maxRecDepth 100000 in
set_option maxHeartbeats 1000000 in
theorem put_ok (x : Int) (h : RQ w R m v ms) (hm : ms.length < m) (h64 : m ≤ 64) : Calls Tryd.prog 46 #[.pointer (some ⟨R, 0, none⟩), .int .u32 x] w fun e w' => e = .returned (.int .i64 0) ∧ Post w R m v (ms ++ [x]) w' := by
  obtain ⟨i0, hi, hz0, hz1, hz2⟩ := info_parts infoWord
  obtain ⟨A, c, rfl, -⟩ := h.sl.form
  have c0 := h.c0
  have c1 := h.c1
  obtain ⟨n, hn⟩ : ∃ n, ms.length = n := ⟨_, rfl⟩
  rw [hn] at c0 hm h ⊢
  have q1 : ((n : Int) == (m : Int)) = false := by rw [beq_eq_false_iff_ne]; omega
  have hnn : Hid (n ≤ 1000) := by show _ ≤ _; omega
  replace hn := Lib.hid hn
  replace h := Lib.hid h
  clear hm h64
  go_enter Tryd.func46, Tryd.ntmps46
  go_wp2_with fail
  go_quiet (fail)
  have hW : Hid (RQ (w.drewN nq) R m (.slice A n c) ms) := h.out.keep (grown_drewN (grown_refl _ _) nq)
  have hF : Hid (Fr (OwnQ R (.slice A n c)) w (w.drewN nq)) := (Fr.refl _ w).drewN nq
  generalize w.drewN nq = W at *
  clear c0 c1 h q1
  have c0 := hW.out.c0
  have hWA : Hid (RQ (W.alloc (.cells #[.int .u32 x] 22)) R m (.slice A n c) ms) := hW.out.keep (World.grownBy_alloc _ _ none)
  have hFA : Hid (Fr (OwnQ R (.slice A n c)) w (W.alloc (.cells #[.int .u32 x] 22))) := hF.out.alloc _
  go_wp2_with (at_builtin; refine wpList_append_qs _ rfl _ _ 56 rfl 22 i0 Tryd.underlying56 hi hz0 hz1 hz2 (.slice A n c) ms rfl hWA.out.sl ⟨W.heap.size, 0, none⟩ 1 x rfl (cell_one_new _ _ _) (by rw [hn.out]; exact hnn.out) ?_; intro v' w5 hM5 hgrow hat; obtain ⟨A5, c5, rfl, -⟩ := hM5.form; obtain ⟨hu0, hf0, hP⟩ := fin hWA.out hFA.out hM5 hgrow hat; clear hM5 hgrow hat)
  go_ret
  exact ⟨rfl, by rw [List.length_append] at hP; exact hP⟩
set_option maxRecDepth 100000 in
set_option maxHeartbeats 1000000 in
theorem push_ok (x : Int) (h : RQ w R m v ms) (hm : ms.length < m) (h64 : m ≤ 64) : Calls Tryd.prog 48 #[.pointer (some ⟨R, 0, none⟩), .int .u32 x] w fun e w' => e = .returned (.int .i64 0) ∧ Post w R m v (x :: ms) w' := by
  obtain ⟨i0, hi, hz0, hz1, hz2⟩ := info_parts infoWord
  obtain ⟨A, c, rfl, -⟩ := h.sl.form
  have c0 := h.c0
  have c1 := h.c1
  obtain ⟨n, hn⟩ : ∃ n, ms.length = n := ⟨_, rfl⟩
  rw [hn] at c0 hm h ⊢
  have q1 : ((n : Int) == (m : Int)) = false := by rw [beq_eq_false_iff_ne]; omega
  have hnn : Hid (n ≤ 1000) := by show _ ≤ _; omega
  replace hn := Lib.hid hn
  replace h := Lib.hid h
  clear hm h64
  go_enter Tryd.func48, Tryd.ntmps48
  go_wp2_with fail
  go_quiet (fail)
  have hW : Hid (RQ (w.drewN nq) R m (.slice A n c) ms) := h.out.keep (grown_drewN (grown_refl _ _) nq)
  have hF : Hid (Fr (OwnQ R (.slice A n c)) w (w.drewN nq)) := (Fr.refl _ w).drewN nq
  generalize w.drewN nq = W at *
  clear c0 c1 h q1
  have hWA : Hid (RQ (W.alloc (.cells #[.int .u32 x] 22)) R m (.slice A n c) ms) := hW.out.keep (World.grownBy_alloc _ _ none)
  have hFA : Hid (Fr (OwnQ R (.slice A n c)) w (W.alloc (.cells #[.int .u32 x] 22))) := hF.out.alloc _
  have c0 : (W.alloc (.cells #[.int .u32 x] 22)).cell? ⟨R, 0, none⟩ = some (.slice A n c) := hWA.out.c0
  have hrow : Hid (Mine (W.alloc (.cells #[.int .u32 x] 22)) W.heap.size 22 .u32 (.slice (some ⟨W.heap.size, 0, none⟩) 1 1) [x]) := one_row W x _
  have hsl : Hid (∃ lo hi, SlA (W.alloc (.cells #[.int .u32 x] 22)) lo hi .u32 A ms) := by
    obtain ⟨A', c', e, h9⟩ := hWA.out.sl.form
    cases e; exact ⟨_, _, h9⟩
  obtain ⟨lo, hi', hsl⟩ := hsl.out
  replace hsl := Lib.hid hsl
  go_wp2_with (at_builtin; refine wpList_join rfl _ _ 56 rfl W.heap.size 22 i0 Tryd.underlying56 hi hz0 hz1 hz2 (.slice (some ⟨W.heap.size, 0, none⟩) 1 1) [x] A n c lo hi' ms rfl hrow.out rfl hsl.out hn.out hnn.out (by simp) (by simp) ?_; intro v' w5 hM5 hgrow; obtain ⟨A5, c5, rfl, -⟩ := hM5.form; obtain ⟨hu0, hf0, hP⟩ := fin2 hW.out hWA.out hF.out hM5 hgrow; clear hM5 hgrow)
  go_ret
  exact ⟨rfl, hP⟩
end RefQ
end Go.Proofs.YtabkkeeedlnmnaaDoor
