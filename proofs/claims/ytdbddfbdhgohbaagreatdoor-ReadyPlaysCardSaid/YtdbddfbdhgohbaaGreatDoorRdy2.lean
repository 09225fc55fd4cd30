/- Package ready: Put, Push, Remove, Turn, List. -/
import Derived.Test.YtdbddfbdhgohbaaGreatDoorRdy
namespace Go.Proofs.YtdbddfbdhgohbaaGreatDoor
open Go.RowKit Go.Shelf Tk Tk.Lad Tk.Rdy
set_option linter.unusedVariables false
set_option linter.unusedSimpArgs false
section
variable {w w' : World} {Q : Nat} {Bs Ms : Nat → Nat} {ls : Nat → List Int} {rk : Nat → Nat} {has : Nat}
theorem mayR_zero {x r : Int} (h : mayR rk x r = 0) : ∃ u s : Nat, x = u ∧ r = s ∧ u < 256 ∧ s < 32 ∧ rk u = 0 := by
  unfold mayR at h
  by_cases h1 : x < 0 ∨ 255 < x ∨ r < 0 ∨ 31 < r
  · rw [if_pos h1] at h; cases h
  · rw [if_neg h1] at h
    obtain ⟨u, rfl⟩ := Int.eq_ofNat_of_zero_le (by omega : 0 ≤ x)
    obtain ⟨s, rfl⟩ := Int.eq_ofNat_of_zero_le (by omega : 0 ≤ r)
    refine ⟨u, s, rfl, rfl, by omega, by omega, ?_⟩
    rw [Int.toNat_natCast] at h
    by_cases e : rk u = 0
    · exact e
    · rw [if_neg e] at h; cases h
theorem mayR_in {u s : Nat} (hu : u < 256) (hs : s < 32) (h : rk u = 0) : mayR rk u s = 0 := by
  unfold mayR; rw [if_neg (by omega), Int.toNat_natCast, if_pos h]
set_option maxRecDepth 100000 in
set_option maxHeartbeats 2000000 in
theorem putq_in (h : Rq w Q Bs Ms ls rk has) (ho : Ok ls rk has) {u r : Nat} (hu : u < 256) (hr : r < 32) (hk : rk u = 0) :
    Calls Tryz.prog 18 #[.pointer (some ⟨Q, 0, none⟩), .int .i64 u, .int .i64 r] w fun e w' => e = .returned (.int .i64 0) ∧ Rq w' Q Bs Ms (upd ls r (ls r ++ [(u : Int)])) (upd rk u (r + 1)) (setN has r) ∧ Fr (OwnQ Q Bs Ms) w w' := by
  have hmay := mayq_any h u r
  rw [mayR_in hu hr hk] at hmay
  obtain ⟨f, c, hR⟩ := h.rg r hr
  have hput := Lib.hid (put_ok (u : Int) (putRes_zero (by omega) (ho.not_in hr hk) (ho.fits hr hu hk)) hR)
  replace hmay := Lib.hid hmay
  have hc := h.cl hr
  have rI : (r : Int) < 32 := by omega
  have r0 : (0 : Int) ≤ (r : Int) := Int.natCast_nonneg _
  have hh := ho.lt
  clear hR hk
  go_enter Tryz.func18, Tryz.ntmps18
  go_wp2_with fail
  refine hmay.out.mono ?_; rintro e w' ⟨rfl, rfl⟩
  go_wp2_with fail
  refine hput.out.mono ?_; rintro e w1 ⟨rfl, hR1, g1⟩
  have h1 := h.ring hr hR1 g1
  go_wp2_with fail
  refine (came_ok h1 hh hu hr).mono ?_; rintro e w2 ⟨⟨v, rfl⟩, h2, g2⟩
  clear hc h h1
  go_wp2_with fail
  go_ret
  exact ⟨rfl, h2, (Rq.own r hr g1).trans g2⟩
set_option maxRecDepth 100000 in
set_option maxHeartbeats 2000000 in
theorem pushq_in (h : Rq w Q Bs Ms ls rk has) (ho : Ok ls rk has) {u r : Nat} (hu : u < 256) (hr : r < 32) (hk : rk u = 0) :
    Calls Tryz.prog 22 #[.pointer (some ⟨Q, 0, none⟩), .int .i64 u, .int .i64 r] w fun e w' => e = .returned (.int .i64 0) ∧ Rq w' Q Bs Ms (upd ls r ((u : Int) :: ls r)) (upd rk u (r + 1)) (setN has r) ∧ Fr (OwnQ Q Bs Ms) w w' := by
  have hmay := mayq_any h u r
  rw [mayR_in hu hr hk] at hmay
  obtain ⟨f, c, hR⟩ := h.rg r hr
  have hput := Lib.hid (push_ok (u : Int) (putRes_zero (by omega) (ho.not_in hr hk) (ho.fits hr hu hk)) hR)
  replace hmay := Lib.hid hmay
  have hc := h.cl hr
  have rI : (r : Int) < 32 := by omega
  have r0 : (0 : Int) ≤ (r : Int) := Int.natCast_nonneg _
  have hh := ho.lt
  clear hR hk
  go_enter Tryz.func22, Tryz.ntmps22
  go_wp2_with fail
  refine hmay.out.mono ?_; rintro e w' ⟨rfl, rfl⟩
  go_wp2_with fail
  refine hput.out.mono ?_; rintro e w1 ⟨rfl, hR1, g1⟩
  have h1 := h.ring hr hR1 g1
  go_wp2_with fail
  refine (came_ok h1 hh hu hr).mono ?_; rintro e w2 ⟨⟨v, rfl⟩, h2, g2⟩
  clear hc h h1
  go_wp2_with fail
  go_ret
  exact ⟨rfl, h2, (Rq.own r hr g1).trans g2⟩
theorem putq_no (h : Rq w Q Bs Ms ls rk has) (x r m : Int) (hm : mayR rk x r = m) (h0 : m ≠ 0) :
    Calls Tryz.prog 18 #[.pointer (some ⟨Q, 0, none⟩), .int .i64 x, .int .i64 r] w fun e w' => e = .returned (.int .i64 m) ∧ w = w' := by
  have hmay := mayq_any h x r
  rw [hm] at hmay
  replace hmay := Lib.hid hmay
  have he : (m == 0) = false := by rw [beq_eq_false_iff_ne]; exact h0
  clear h hm h0
  go_enter Tryz.func18, Tryz.ntmps18
  go_wp2_with fail
  refine hmay.out.mono ?_; rintro e w' ⟨rfl, rfl⟩
  go_wp2_with fail
  go_ret
  exact ⟨rfl, rfl⟩
theorem pushq_no (h : Rq w Q Bs Ms ls rk has) (x r m : Int) (hm : mayR rk x r = m) (h0 : m ≠ 0) :
    Calls Tryz.prog 22 #[.pointer (some ⟨Q, 0, none⟩), .int .i64 x, .int .i64 r] w fun e w' => e = .returned (.int .i64 m) ∧ w = w' := by
  have hmay := mayq_any h x r
  rw [hm] at hmay
  replace hmay := Lib.hid hmay
  have he : (m == 0) = false := by rw [beq_eq_false_iff_ne]; exact h0
  clear h hm h0
  go_enter Tryz.func22, Tryz.ntmps22
  go_wp2_with fail
  refine hmay.out.mono ?_; rintro e w' ⟨rfl, rfl⟩
  go_wp2_with fail
  go_ret
  exact ⟨rfl, rfl⟩
set_option maxRecDepth 100000 in
set_option maxHeartbeats 4000000 in
theorem removeq_in (h : Rq w Q Bs Ms ls rk has) (ho : Ok ls rk has) {u r : Nat} (hu : u < 256) (hr : r < 32) (hk : rk u = r + 1) :
    Calls Tryz.prog 20 #[.pointer (some ⟨Q, 0, none⟩), .int .i64 u] w fun e w' => e = .returned (.int .i64 0) ∧ (∃ j, j < (ls r).length ∧ gd (ls r) j = (u : Int) ∧
      Rq w' Q Bs Ms (upd ls r ((ls r).eraseIdx j)) (upd rk u 0) (if (ls r).eraseIdx j = [] then clrN has r else has)) ∧ Fr (OwnQ Q Bs Ms) w w' := by
  have hth := Lib.hid h.there
  have hrank := Lib.hid (rank_ok h hu hk hr)
  obtain ⟨f, c, hR⟩ := h.rg r hr
  have hin : (u : Int) ∈ ls r := by have := (ho.to u hu (by omega)).2; rwa [hk, Nat.add_sub_cancel] at this
  have hrem := Lib.hid (remove_ok (u : Int) hin hR)
  have hc := h.cl hr
  have rI : (r : Int) < 32 := by omega
  have r0 : (0 : Int) ≤ (r : Int) := Int.natCast_nonneg _
  have u0 : (0 : Int) ≤ (u : Int) := Int.natCast_nonneg _
  have uI : (u : Int) < 256 := by omega
  have hh := ho.lt
  clear hR hk hin
  go_enter Tryz.func20, Tryz.ntmps20
  go_wp2_with fail
  refine hth.out.mono ?_; rintro e w' ⟨rfl, rfl⟩
  go_wp2_with fail
  refine hrank.out.mono ?_; rintro e w' ⟨rfl, rfl⟩
  go_wp2_with fail
  refine hrem.out.mono ?_; rintro e w1 ⟨rfl, ⟨j, f1, c1, hj, hg, -, hR1⟩, g1⟩
  have h1 := h.ring hr ⟨f1, c1, hR1⟩ g1
  have gg1 := Rq.own (Q := Q) (Bs := Bs) (Ms := Ms) r hr g1
  obtain ⟨l', hl'⟩ : ∃ l', (ls r).eraseIdx j = l' := ⟨_, rfl⟩
  rw [hl'] at h1
  have hck := h1.cr hu
  have hfk := h1.hdr.frozen (33 + u)
  have h2 := h1.set_rk hu 0
  have g2 := fr_q (Bs := Bs) (Ms := Ms) (grownBy_setCell w1 Q (33 + u) (.int .i64 ((0 : Nat) : Int)))
  have hc2 := h2.cl hr
  obtain ⟨f2, c2, hR2⟩ := h2.rg r hr
  rw [upd_same] at hR2
  replace hg := Lib.hid hg
  replace hl' := Lib.hid hl'
  replace hj := Lib.hid hj
  rw [show ((0 : Nat) : Int) = 0 from rfl] at h2 g2 hc2 hR2
  clear hc h h1 hR1 g1
  go_wp2_with fail
  refine (list_ok hR2).mono ?_; rintro e w3 ⟨A, k, rfl, hk, -, g3⟩
  have h3 := h2.keep g3
  have hc3 := h3.c0
  have hf3 := h3.hdr.frozen 0
  have gg3 := (gg1.trans g2).trans (fr_grown (S := OwnQ Q Bs Ms) g3)
  clear h2 hR2 g2 gg1 g3 hc2 hck hfk
  by_cases hem : l' = []
  · subst hem
    have h4 := h3.set_has (clrN has r)
    have g4 := fr_q (Bs := Bs) (Ms := Ms) (grownBy_setCell w3 Q 0 (.int .u32 (clrN has r)))
    replace h4 := Lib.hid h4
    clear h3
    go_wp2_with fail
    refine (clear_any has hh (r : Int) _).mono ?_; rintro e w' ⟨rfl, rfl⟩
    go_wp2_with fail
    go_ret
    exact ⟨rfl, ⟨j, hj.out, hg.out, by rw [hl'.out, if_pos rfl]; exact h4.out⟩, gg3.trans g4⟩
  · have hl0 : (((l'.length : Nat) : Int) == 0) = false := by
      rw [beq_eq_false_iff_ne]
      have := List.length_pos_iff.2 hem
      omega
    have hl1 : ¬ l'.length = 0 := fun e => hem (List.length_eq_zero_iff.1 e)
    generalize hll : l'.length = n at *
    replace hll := Lib.hid hll
    replace hem := Lib.hid hem
    clear hc3 hf3
    go_wp2_with fail
    go_ret
    exact ⟨rfl, ⟨j, hj.out, hg.out, by rw [hl'.out, if_neg hem.out]; exact h3⟩, gg3⟩
theorem removeq_no (h : Rq w Q Bs Ms ls rk has) (x : Int) (hno : ∀ u : Nat, x = u → u < 256 → rk u = 0) :
    Calls Tryz.prog 20 #[.pointer (some ⟨Q, 0, none⟩), .int .i64 x] w fun e w' => e = .returned (.int .i64 1) ∧ w = w' := by
  have hth := Lib.hid h.there
  have hrank := Lib.hid (rank_no h x hno)
  clear h hno
  go_enter Tryz.func20, Tryz.ntmps20
  go_wp2_with fail
  refine hth.out.mono ?_; rintro e w' ⟨rfl, rfl⟩
  go_wp2_with fail
  refine hrank.out.mono ?_; rintro e w' ⟨rfl, rfl⟩
  go_wp2_with fail
  go_ret
  exact ⟨rfl, rfl⟩
theorem turnq_in (h : Rq w Q Bs Ms ls rk has) {r : Nat} (hr : r < 32) {v : Int} {ms : List Int} (hl : ls r = v :: ms) :
    Calls Tryz.prog 19 #[.pointer (some ⟨Q, 0, none⟩), .int .i64 r] w fun e w' => e = .returned (.int .i64 0) ∧ Rq w' Q Bs Ms (upd ls r (ms ++ [v])) rk has ∧ Fr (OwnQ Q Bs Ms) w w' := by
  have hth := Lib.hid h.there
  have hrl := Lib.hid (rankless_ok (r : Int) (by omega) (by omega))
  obtain ⟨f, c, hR⟩ := h.rg r hr
  rw [hl] at hR
  have hc := h.cl hr
  have rI : (r : Int) < 32 := by omega
  have r0 : (0 : Int) ≤ (r : Int) := Int.natCast_nonneg _
  replace hl := Lib.hid hl
  go_enter Tryz.func19, Tryz.ntmps19
  go_wp2_with fail
  refine hth.out.mono ?_; rintro e w' ⟨rfl, rfl⟩
  go_wp2_with fail
  refine (hrl.out _).mono ?_; rintro e w' ⟨rfl, rfl⟩
  go_wp2_with fail
  refine (turn_ok hR).mono ?_; rintro e w1 ⟨rfl, hR1, g1⟩
  go_wp2_with fail
  go_ret
  exact ⟨rfl, h.ring hr hR1 g1, Rq.own r hr g1⟩
theorem turnq_empty (h : Rq w Q Bs Ms ls rk has) {r : Nat} (hr : r < 32) (hl : ls r = []) :
    Calls Tryz.prog 19 #[.pointer (some ⟨Q, 0, none⟩), .int .i64 r] w fun e w' => e = .returned (.int .i64 11) ∧ w = w' := by
  have hth := Lib.hid h.there
  have hrl := Lib.hid (rankless_ok (r : Int) (by omega) (by omega))
  obtain ⟨f, c, hR⟩ := h.rg r hr
  rw [hl] at hR
  have hc := h.cl hr
  have rI : (r : Int) < 32 := by omega
  have r0 : (0 : Int) ≤ (r : Int) := Int.natCast_nonneg _
  replace hl := Lib.hid hl
  go_enter Tryz.func19, Tryz.ntmps19
  go_wp2_with fail
  refine hth.out.mono ?_; rintro e w' ⟨rfl, rfl⟩
  go_wp2_with fail
  refine (hrl.out _).mono ?_; rintro e w' ⟨rfl, rfl⟩
  go_wp2_with fail
  refine (turn_empty hR).mono ?_; rintro e w1 ⟨rfl, rfl⟩
  go_wp2_with fail
  go_ret
  exact ⟨rfl, rfl⟩
theorem turnq_no (h : Rq w Q Bs Ms ls rk has) (r : Int) (hr : ¬ (0 ≤ r ∧ r ≤ 31)) :
    Calls Tryz.prog 19 #[.pointer (some ⟨Q, 0, none⟩), .int .i64 r] w fun e w' => e = .returned (.int .i64 1) ∧ w = w' := by
  have hth := Lib.hid h.there
  have hrl := Lib.hid (rankless_no r hr)
  clear h hr
  go_enter Tryz.func19, Tryz.ntmps19
  go_wp2_with fail
  refine hth.out.mono ?_; rintro e w' ⟨rfl, rfl⟩
  go_wp2_with fail
  refine (hrl.out _).mono ?_; rintro e w' ⟨rfl, rfl⟩
  go_wp2_with fail
  go_ret
  exact ⟨rfl, rfl⟩
theorem listq_in (h : Rq w Q Bs Ms ls rk has) {r : Nat} (hr : r < 32) (n : Nat) (hn : (ls r).length = n) :
    Calls Tryz.prog 13 #[.pointer (some ⟨Q, 0, none⟩), .int .i64 r] w fun e w' => ∃ A k, e = .returned (.slice A n k) ∧ n ≤ k ∧ Mine w' w.heap.size 3 .i64 (.slice A n k) (ls r) ∧ w.grownBy w' none := by
  have hth := Lib.hid h.there
  have hrl := Lib.hid (rankless_ok (r : Int) (by omega) (by omega))
  obtain ⟨f, c, hR⟩ := h.rg r hr
  have hc := h.cl hr
  have rI : (r : Int) < 32 := by omega
  have r0 : (0 : Int) ≤ (r : Int) := Int.natCast_nonneg _
  have hli := Lib.hid (list_n n hn hR)
  clear h hn hR
  go_enter Tryz.func13, Tryz.ntmps13
  go_wp2_with fail
  refine hth.out.mono ?_; rintro e w' ⟨rfl, rfl⟩
  go_wp2_with fail
  refine (hrl.out _).mono ?_; rintro e w' ⟨rfl, rfl⟩
  go_wp2_with fail
  refine hli.out.mono ?_; rintro e w1 ⟨A, k, rfl, hk, hM, g1⟩
  go_wp2_with fail
  go_ret
  exact ⟨A, k, rfl, hk, hM, g1⟩
theorem listq_no (h : Rq w Q Bs Ms ls rk has) (r : Int) (hr : ¬ (0 ≤ r ∧ r ≤ 31)) :
    Calls Tryz.prog 13 #[.pointer (some ⟨Q, 0, none⟩), .int .i64 r] w fun e w' => e = .returned (.slice none 0 0) ∧ w = w' := by
  have hth := Lib.hid h.there
  have hrl := Lib.hid (rankless_no r hr)
  clear h hr
  go_enter Tryz.func13, Tryz.ntmps13
  go_wp2_with fail
  refine hth.out.mono ?_; rintro e w' ⟨rfl, rfl⟩
  go_wp2_with fail
  refine (hrl.out _).mono ?_; rintro e w' ⟨rfl, rfl⟩
  go_wp2_with fail
  go_ret
  exact ⟨rfl, rfl⟩
end
end Go.Proofs.YtdbddfbdhgohbaaGreatDoor
