/- timekeeperref07: New, at, may, Put, Push. -/
import Derived.Test.YtmjcanamfijdjaaDoorRngRef
namespace Go.Proofs.YtmjcanamfijdjaaDoor
open Go.RowKit Go.Shelf Tk
set_option linter.unusedVariables false
set_option linter.unusedSimpArgs false
namespace RefG
variable {w w' : World} {R m : Nat} {v : Value} {ms : List Int}
theorem meas (n k : Nat) (h : k < n) : n - (intOf (.int .i64 ((k : Int) + 1))).toNat < n - (intOf (.int .i64 (k : Int))).toNat := by simp [intOf]; omega
theorem new_ok (m : Nat) (h1 : 1 ≤ m) (h2 : m ≤ 1024) (w : World) :
    Calls Tryd.prog 5 #[.int .i64 m] w fun e w' => e = .returned (.tuple #[.pointer (some ⟨w.heap.size, 0, none⟩), .int .i64 0]) ∧ RQ w' w.heap.size m (.slice none 0 0) [] ∧ w.grownBy w' none ∧ w'.heap.size = w.heap.size + 1 := by
  have q1 : decide ((m : Int) < 1) = false := decide_eq_false (by omega)
  have q2 : decide ((1024 : Int) < (m : Int)) = false := decide_eq_false (by omega)
  have hA := Arr.new w #[.slice none 0 0, .int .i64 m] 57 2 (rqv (.slice none 0 0) m) rfl (fun i hi => by
    rcases (by omega : i = 0 ∨ i = 1) with rfl | rfl <;> rfl)
  have hg := World.grownBy_alloc w (.cells #[.slice none 0 0, .int .i64 m] 57) none
  go_enter Tryd.func5, Tryd.ntmps5
  go_wp2_with fail
  go_ret2
  exact ⟨rfl, ⟨hA, .inl ⟨rfl, rfl⟩, by simp [Value.ownBlock]⟩, hg, by simp⟩
theorem new_bad (m : Int) (h : m < 1 ∨ 1024 < m) (w : World) :
    Calls Tryd.prog 5 #[.int .i64 m] w fun e w' => e = .returned (.tuple #[.pointer none, .int .i64 1]) ∧ w = w' := by
  by_cases h1 : m < 1
  · have q1 : decide (m < 1) = true := decide_eq_true h1
    go_enter Tryd.func5, Tryd.ntmps5
    go_wp2_with fail
    go_ret2
    exact ⟨rfl, rfl⟩
  · have q1 : decide (m < 1) = false := decide_eq_false h1
    have q2 : decide (1024 < m) = true := decide_eq_true (by omega)
    go_enter Tryd.func5, Tryd.ntmps5
    go_wp2_with fail
    go_ret2
    exact ⟨rfl, rfl⟩
set_option maxRecDepth 100000 in
theorem at_ok (x : Int) (h : RQ w R m v ms) (hl : ms.length ≤ 2000) : Calls Tryd.prog 28 #[.pointer (some ⟨R, 0, none⟩), .int .i64 x] w fun e w' => ∃ r, e = .returned (.int .i64 r) ∧ Fst x ms r ∧ w = w' := by
  obtain ⟨A, c, rfl, hsl⟩ := h.sl.form
  have c0 := h.c0
  obtain ⟨n, hn⟩ : ∃ n, ms.length = n := ⟨_, rfl⟩
  rw [hn] at c0 hl
  replace hsl := Lib.hid hsl
  replace hn := Lib.hid hn
  clear h
  go_enter Tryd.func28, Tryd.ntmps28
  go_wp2_with fail
  go_loopw [5] (fun i wr => ∃ k : Nat, k ≤ n ∧ i = .int .i64 k ∧ Hid (∀ j, j < k → gd ms j ≠ x) ∧ wr = w) (fun i _ => n - (intOf i).toNat)
  case atStart => exact ⟨0, Nat.zero_le _, rfl, fun j hj => absurd hj (Nat.not_lt_zero _), rfl⟩
  case round =>
    obtain ⟨k, hk, rfl, hno, hww⟩ := hrel
    obtain rfl : w = wr := hww.symm
    by_cases hlt : k < n
    · obtain ⟨b, o, hA, q⟩ := hsl.out.at (i := k) (by rw [hn.out]; exact hlt)
      subst hA
      have hkI : (k : Int) < (n : Int) := by omega
      by_cases he : gd ms k = x
      · have hF : Hid (Fst x ms (k : Int)) := .inl ⟨k, rfl, by rw [hn.out]; exact hlt, he, hno.out⟩
        rw [he] at q
        clear he
        go_wp2_with fail
        go_ret
        exact ⟨_, rfl, hF.out, rfl⟩
      · have hno' : Hid (∀ j, j < k + 1 → gd ms j ≠ x) := fun j hj => by
          by_cases e : j = k
          · subst e; exact he
          · exact hno.out j (by omega)
        have d1 : (gd ms k == x) = false := by rw [beq_eq_false_iff_ne]; exact he
        generalize gd ms k = y at *
        clear he
        go_wp2_with fail
        go_roundw
        case rel => exact ⟨k + 1, by omega, by go_num, hno', by first | rfl | trivial⟩
        case measure => exact meas n k hlt
    · obtain rfl : n = k := by omega
      have hF : Hid (Fst x ms (-1)) := .inr ⟨rfl, fun i hi => hno.out i (by rw [← hn.out]; exact hi)⟩
      go_wp2_with fail
      go_ret
      exact ⟨_, rfl, hF.out, rfl⟩
theorem fst_mem {x : Int} {ms : List Int} {r : Int} (h : Fst x ms r) : (0 ≤ r ∧ x ∈ ms) ∨ (r = -1 ∧ x ∉ ms) := by
  rcases h with ⟨j, rfl, h1, h2, -⟩ | ⟨rfl, h1⟩
  · exact .inl ⟨by omega, mem_iff_gd.2 ⟨j, h1, h2⟩⟩
  · refine .inr ⟨rfl, fun hm => ?_⟩
    obtain ⟨i, hi, e⟩ := mem_iff_gd.1 hm
    exact h1 i hi e
set_option maxRecDepth 100000 in
theorem may_ok (x : Int) (h : RQ w R m v ms) (hl : ms.length ≤ m) (hm : m ≤ 1024) : Calls Tryd.prog 23 #[.pointer (some ⟨R, 0, none⟩), .int .i64 x] w fun e w' => e = .returned (.int .i64 (putRes ms m x)) ∧ ∃ nd, w.drewN nd = w' := by
  by_cases h0 : x < 0
  · have hP : Hid (putRes ms m x = 1) := by show _ = _; unfold putRes; rw [if_pos h0]
    have d : decide (x < 0) = true := decide_eq_true h0
    clear h0
    go_enter Tryd.func23, Tryd.ntmps23
    go_wp2_with fail
    go_ret
    exact ⟨by rw [hP.out]; rfl, 0, rfl⟩
  · have d : decide (x < 0) = false := decide_eq_false h0
    have hat := Lib.hid (at_ok x h (by omega))
    obtain ⟨A, c, rfl, hsl⟩ := h.sl.form
    have c0 := h.c0
    have c1 := h.c1
    by_cases hmem : x ∈ ms
    · have hP : Hid (putRes ms m x = 7) := by show _ = _; unfold putRes; rw [if_neg h0, if_pos hmem]
      replace hmem := Lib.hid hmem
      clear h0 h hsl c0 c1
      go_enter Tryd.func23, Tryd.ntmps23
      go_wp2_with fail
      refine hat.out.mono ?_; rintro e w1 ⟨r, rfl, hF, rfl⟩
      have hr : decide (0 ≤ r) = true := decide_eq_true (by
        rcases fst_mem hF with h | h
        · exact h.1
        · exact absurd hmem.out h.2)
      clear hF
      go_wp2_with fail
      go_ret
      exact ⟨by rw [hP.out]; rfl, 0, rfl⟩
    · obtain ⟨n, hn⟩ : ∃ n, ms.length = n := ⟨_, rfl⟩
      have hP : Hid (putRes ms m x = if n = m then 10 else 0) := by show _ = _; unfold putRes; rw [if_neg h0, if_neg hmem, hn]
      rw [hn] at c0 hl
      replace hmem := Lib.hid hmem
      clear h0 h hsl hn
      by_cases hf : n = m
      · have q1 : ((n : Int) == (m : Int)) = true := by simp [hf]
        have hP2 : Hid (putRes ms m x = 10) := by show _ = _; rw [hP.out, if_pos hf]
        clear hf hP
        go_enter Tryd.func23, Tryd.ntmps23
        go_wp2_with fail
        refine hat.out.mono ?_; rintro e w1 ⟨r, rfl, hF, rfl⟩
        have hr : decide (0 ≤ r) = false := decide_eq_false (by
          rcases fst_mem hF with h | h
          · exact absurd h.2 hmem.out
          · omega)
        clear hF
        go_wp2_with fail
        go_quiet (fail)
        go_wp2_with fail
        go_ret
        exact ⟨by rw [hP2.out]; rfl, _, rfl⟩
      · have q1 : ((n : Int) == (m : Int)) = false := by rw [beq_eq_false_iff_ne]; omega
        have hP2 : Hid (putRes ms m x = 0) := by show _ = _; rw [hP.out, if_neg hf]
        clear hf hP
        go_enter Tryd.func23, Tryd.ntmps23
        go_wp2_with fail
        refine hat.out.mono ?_; rintro e w1 ⟨r, rfl, hF, rfl⟩
        have hr : decide (0 ≤ r) = false := decide_eq_false (by
          rcases fst_mem hF with h | h
          · exact absurd h.2 hmem.out
          · omega)
        clear hF
        go_wp2_with fail
        go_quiet (fail)
        go_wp2_with fail
        go_ret
        exact ⟨by rw [hP2.out]; rfl, _, rfl⟩
theorem put_no (x e : Int) (he : e ≠ 0) (hmay : Calls Tryd.prog 23 #[.pointer (some ⟨R, 0, none⟩), .int .i64 x] w fun a w' => a = .returned (.int .i64 e) ∧ ∃ nd, w.drewN nd = w') :
    Calls Tryd.prog 7 #[.pointer (some ⟨R, 0, none⟩), .int .i64 x] w fun a w' => a = .returned (.int .i64 e) ∧ ∃ nd, w.drewN nd = w' := by
  have q : (e == 0) = false := by rw [beq_eq_false_iff_ne]; exact he
  replace hmay := Lib.hid hmay
  clear he
  go_enter Tryd.func7, Tryd.ntmps7
  go_wp2_with fail
  refine hmay.out.mono ?_; rintro a w1 ⟨rfl, nd, rfl⟩
  go_wp2_with fail
  go_ret
  exact ⟨rfl, nd, rfl⟩
theorem push_no (x e : Int) (he : e ≠ 0) (hmay : Calls Tryd.prog 23 #[.pointer (some ⟨R, 0, none⟩), .int .i64 x] w fun a w' => a = .returned (.int .i64 e) ∧ ∃ nd, w.drewN nd = w') :
    Calls Tryd.prog 9 #[.pointer (some ⟨R, 0, none⟩), .int .i64 x] w fun a w' => a = .returned (.int .i64 e) ∧ ∃ nd, w.drewN nd = w' := by
  have q : (e == 0) = false := by rw [beq_eq_false_iff_ne]; exact he
  replace hmay := Lib.hid hmay
  clear he
  go_enter Tryd.func9, Tryd.ntmps9
  go_wp2_with fail
  refine hmay.out.mono ?_; rintro a w1 ⟨rfl, nd, rfl⟩
  go_wp2_with fail
  go_ret
  exact ⟨rfl, nd, rfl⟩
set_option maxRecDepth 100000 in
set_option maxHeartbeats 1000000 in
theorem put_ok (x : Int) (h : RQ w R m v ms) (hl : ms.length ≤ 1024) (hmay : Calls Tryd.prog 23 #[.pointer (some ⟨R, 0, none⟩), .int .i64 x] w fun a w' => a = .returned (.int .i64 0) ∧ ∃ nd, w.drewN nd = w') :
    Calls Tryd.prog 7 #[.pointer (some ⟨R, 0, none⟩), .int .i64 x] w fun e w' => e = .returned (.int .i64 0) ∧ Post w R m v (ms ++ [x]) w' := by
  obtain ⟨i0, hi, hz0, hz1, hz2⟩ := info_parts infoInt
  obtain ⟨A, c, rfl, -⟩ := h.sl.form
  obtain ⟨n, hn⟩ : ∃ n, ms.length = n := ⟨_, rfl⟩
  rw [hn] at h ⊢
  have hnn : Hid (n ≤ 2000) := by show _ ≤ _; omega
  replace hn := Lib.hid hn
  replace h := Lib.hid h
  replace hmay := Lib.hid hmay
  clear hl
  go_enter Tryd.func7, Tryd.ntmps7
  go_wp2_with fail
  refine hmay.out.mono ?_; rintro e w1 ⟨rfl, nq, rfl⟩
  have hW : Hid (RQ (w.drewN nq) R m (.slice A n c) ms) := h.out.keep (grown_drewN (grown_refl _ _) nq)
  have hF : Hid (Fr (OwnQ R (.slice A n c)) w (w.drewN nq)) := (Fr.refl _ w).drewN nq
  generalize w.drewN nq = W at *
  clear h
  have c0 := hW.out.c0
  have hWA : Hid (RQ (W.alloc (.cells #[.int .i64 x] 3)) R m (.slice A n c) ms) := hW.out.keep (World.grownBy_alloc _ _ none)
  have hFA : Hid (Fr (OwnQ R (.slice A n c)) w (W.alloc (.cells #[.int .i64 x] 3))) := hF.out.alloc _
  go_wp2_with (at_builtin; refine wpList_append_qs _ rfl _ _ 46 rfl 3 i0 Tryd.underlying46 hi hz0 hz1 hz2 (.slice A n c) ms rfl hWA.out.sl ⟨W.heap.size, 0, none⟩ 1 x rfl (cell_one_new _ _ _) (by rw [hn.out]; exact hnn.out) ?_; intro v' w5 hM5 hgrow hat; obtain ⟨A5, c5, rfl, -⟩ := hM5.form; obtain ⟨hu0, hf0, hP⟩ := fin hWA.out hFA.out hM5 hgrow hat; clear hM5 hgrow hat)
  go_ret
  exact ⟨rfl, by rw [List.length_append] at hP; exact hP⟩
theorem grown_two {W WA w5 : World} (h : W.grownBy WA none) (hg : ∃ r, WA.grownBy w5 r ∧ ∀ b, r = some b → W.heap.size ≤ b) : W.grownBy w5 none := by
  obtain ⟨r, hg, hr⟩ := hg
  exact ⟨hg.os.trans h.os, hg.tape.trans h.tape, hg.output.trans h.output, Nat.le_trans h.size hg.size, fun k hk _ => (hg.block k (Nat.lt_of_lt_of_le hk h.size) (fun e => by have := hr k e.symm; omega)).trans (h.block k hk (by simp))⟩
set_option maxRecDepth 100000 in
set_option maxHeartbeats 1000000 in
theorem push_ok (x : Int) (h : RQ w R m v ms) (hl : ms.length ≤ 1024) (hmay : Calls Tryd.prog 23 #[.pointer (some ⟨R, 0, none⟩), .int .i64 x] w fun a w' => a = .returned (.int .i64 0) ∧ ∃ nd, w.drewN nd = w') :
    Calls Tryd.prog 9 #[.pointer (some ⟨R, 0, none⟩), .int .i64 x] w fun e w' => e = .returned (.int .i64 0) ∧ Post w R m v (x :: ms) w' := by
  obtain ⟨i0, hi, hz0, hz1, hz2⟩ := info_parts infoInt
  obtain ⟨A, c, rfl, -⟩ := h.sl.form
  obtain ⟨n, hn⟩ : ∃ n, ms.length = n := ⟨_, rfl⟩
  rw [hn] at h ⊢
  have hnn : Hid (n ≤ 2000) := by show _ ≤ _; omega
  replace hn := Lib.hid hn
  replace h := Lib.hid h
  replace hmay := Lib.hid hmay
  clear hl
  go_enter Tryd.func9, Tryd.ntmps9
  go_wp2_with fail
  refine hmay.out.mono ?_; rintro e w1 ⟨rfl, nq, rfl⟩
  have hW : Hid (RQ (w.drewN nq) R m (.slice A n c) ms) := h.out.keep (grown_drewN (grown_refl _ _) nq)
  have hF : Hid (Fr (OwnQ R (.slice A n c)) w (w.drewN nq)) := (Fr.refl _ w).drewN nq
  generalize w.drewN nq = W at *
  clear h
  have hWA : Hid (RQ (W.alloc (.cells #[.int .i64 x] 3)) R m (.slice A n c) ms) := hW.out.keep (World.grownBy_alloc _ _ none)
  have c0 : (W.alloc (.cells #[.int .i64 x] 3)).cell? ⟨R, 0, none⟩ = some (.slice A n c) := hWA.out.c0
  have hrow : Hid (Mine (W.alloc (.cells #[.int .i64 x] 3)) W.heap.size 3 .i64 (.slice (some ⟨W.heap.size, 0, none⟩) 1 1) [x]) := one_row W x _
  have hsl : Hid (∃ lo hi, SlA (W.alloc (.cells #[.int .i64 x] 3)) lo hi .i64 A ms) := by
    obtain ⟨A', c', e, h9⟩ := hWA.out.sl.form
    cases e; exact ⟨_, _, h9⟩
  obtain ⟨lo, hi', hsl⟩ := hsl.out
  replace hsl := Lib.hid hsl
  have hgA := Lib.hid (World.grownBy_alloc W (.cells #[.int .i64 x] 3) none)
  go_wp2_with (at_builtin; refine wpList_join rfl _ _ 46 rfl W.heap.size 3 i0 Tryd.underlying46 hi hz0 hz1 hz2 (.slice (some ⟨W.heap.size, 0, none⟩) 1 1) [x] A n c lo hi' ms rfl hrow.out rfl hsl.out hn.out hnn.out (by simp) (by simp) ?_; intro v' w5 hM5 hgrow; obtain ⟨A5, c5, rfl, -⟩ := hM5.form; obtain ⟨hu0, hf0, hP⟩ := fin3 hW.out hF.out hM5 (grown_two hgA.out hgrow); clear hM5 hgrow)
  go_ret
  exact ⟨rfl, hP⟩
end RefG
end Go.Proofs.YtmjcanamfijdjaaDoor
