/- timekeeperref18: Try. -/
import Derived.Test.YtneamjaglgnmkaaGreatDoorObRef6
namespace Go.Proofs.YtneamjaglgnmkaaGreatDoor
open Go.RowKit Go.Shelf Tk Tk.Msk
set_option linter.unusedVariables false
set_option linter.unusedSimpArgs false
namespace RefO
variable {w : World} {R : Nat} {vr vo : Value} {S : TR}
set_option maxRecDepth 100000 in
set_option maxHeartbeats 16000000 in
theorem rtry_zero (h : RQ w R vr vo S) (hk : 1 ≤ S.k ∧ S.k ≤ 6) (who c hh v m t : Int) (hw : who = 0) :
    Calls Tryz.prog 10 #[.pointer (some ⟨R, 0, none⟩), .int .u32 who, askV c hh v m t] w fun e w' => e = .returned (.tuple #[.int .u32 0, .int .i64 1]) ∧ w.grownBy w' none := by
  have hw0 : (who == 0) = true := by simpa using hw
  clear hw
  have hg0 := Lib.hid (World.grownBy_alloc w (.cells #[.int .u8 c, .int .u32 hh, .int .u32 v, .int .u32 m, .int .i64 t] 39) none)
  have hB := World.alloc_heap_new w (.cells #[.int .u8 c, .int .u32 hh, .int .u32 v, .int .u32 m, .int .i64 t] 39)
  have hR := Lib.hid (h.keep hg0.out)
  have hne : R ≠ w.heap.size := by have := h.lt R (.inl rfl); omega
  have hRl : R < w.heap.size := h.lt R (.inl rfl)
  have r0 := hR.out.c0
  unfold askV
  go_enter Tryz.func10, Tryz.ntmps10
  clear h
  go_wp2_with fail
  generalize w.alloc (.cells #[.int .u8 c, .int .u32 hh, .int .u32 v, .int .u32 m, .int .i64 t] 39) = W0 at *
  generalize w.heap.size = Z at *
  have b0 := cell_of (i := 0) (v := .int .u8 c) hB rfl
  have b1 := cell_of (i := 1) (v := .int .u32 hh) hB rfl
  have b2 := cell_of (i := 2) (v := .int .u32 v) hB rfl
  have b3 := cell_of (i := 3) (v := .int .u32 m) hB rfl
  have b4 := cell_of (i := 4) (v := .int .i64 t) hB rfl
  replace hB := Lib.hid hB
  replace hne := Lib.hid hne
  have hG := Lib.hid (grown_drewN hg0.out)
  go_quiet (fail)
  go_wp2_with fail
  go_ret2
  exact ⟨rfl, hG.out _⟩
set_option maxRecDepth 100000 in
set_option maxHeartbeats 16000000 in
theorem rtry_alarm (h : RQ w R vr vo S) (hk : 1 ≤ S.k ∧ S.k ≤ 6) (who c hh v m t : Int) (hw : who ≠ 0) (h6 : S.k = 6) :
    Calls Tryz.prog 10 #[.pointer (some ⟨R, 0, none⟩), .int .u32 who, askV c hh v m t] w fun e w' => e = .returned (.tuple #[.int .u32 0, .int .i64 1]) ∧ w.grownBy w' none := by
  have hw0 : (who == 0) = false := by simpa using hw
  have hk6 : ((S.k : Int) == 6) = true := by simp [h6]
  clear hw h6
  have hg0 := Lib.hid (World.grownBy_alloc w (.cells #[.int .u8 c, .int .u32 hh, .int .u32 v, .int .u32 m, .int .i64 t] 39) none)
  have hB := World.alloc_heap_new w (.cells #[.int .u8 c, .int .u32 hh, .int .u32 v, .int .u32 m, .int .i64 t] 39)
  have hR := Lib.hid (h.keep hg0.out)
  have hne : R ≠ w.heap.size := by have := h.lt R (.inl rfl); omega
  have hRl : R < w.heap.size := h.lt R (.inl rfl)
  have r0 := hR.out.c0
  unfold askV
  go_enter Tryz.func10, Tryz.ntmps10
  clear h
  go_wp2_with fail
  generalize w.alloc (.cells #[.int .u8 c, .int .u32 hh, .int .u32 v, .int .u32 m, .int .i64 t] 39) = W0 at *
  generalize w.heap.size = Z at *
  have b0 := cell_of (i := 0) (v := .int .u8 c) hB rfl
  have b1 := cell_of (i := 1) (v := .int .u32 hh) hB rfl
  have b2 := cell_of (i := 2) (v := .int .u32 v) hB rfl
  have b3 := cell_of (i := 3) (v := .int .u32 m) hB rfl
  have b4 := cell_of (i := 4) (v := .int .i64 t) hB rfl
  replace hB := Lib.hid hB
  replace hne := Lib.hid hne
  have hG := Lib.hid (grown_drewN hg0.out)
  go_quiet (fail)
  go_wp2_with fail
  go_ret2
  exact ⟨rfl, hG.out _⟩
section
attribute [local go_sem] undef
set_option maxRecDepth 100000 in
set_option maxHeartbeats 16000000 in
theorem rtry_unfit (h : RQ w R vr vo S) (hk : 1 ≤ S.k ∧ S.k ≤ 6) (who c hh v m t : Int) (hw : who ≠ 0) (h6 : S.k ≠ 6) (hc : c ∉ fitL S.k) :
    Calls Tryz.prog 10 #[.pointer (some ⟨R, 0, none⟩), .int .u32 who, askV c hh v m t] w fun e w' => e = .returned (.tuple #[.int .u32 0, .int .i64 1]) ∧ w.grownBy w' none := by
  have hw0 : (who == 0) = false := by simpa using hw
  have hk6 : ((S.k : Int) == 6) = false := by rw [beq_eq_false_iff_ne]; omega
  have hin : decide (c ∈ fitL S.k) = false := by simpa using hc
  clear hw hc h6
  have hg0 := Lib.hid (World.grownBy_alloc w (.cells #[.int .u8 c, .int .u32 hh, .int .u32 v, .int .u32 m, .int .i64 t] 39) none)
  have hB := World.alloc_heap_new w (.cells #[.int .u8 c, .int .u32 hh, .int .u32 v, .int .u32 m, .int .i64 t] 39)
  have hR := Lib.hid (h.keep hg0.out)
  have hne : R ≠ w.heap.size := by have := h.lt R (.inl rfl); omega
  have hRl : R < w.heap.size := h.lt R (.inl rfl)
  have r0 := hR.out.c0
  unfold askV
  go_enter Tryz.func10, Tryz.ntmps10
  clear h
  go_wp2_with fail
  generalize w.alloc (.cells #[.int .u8 c, .int .u32 hh, .int .u32 v, .int .u32 m, .int .i64 t] 39) = W0 at *
  generalize w.heap.size = Z at *
  have b0 := cell_of (i := 0) (v := .int .u8 c) hB rfl
  have b1 := cell_of (i := 1) (v := .int .u32 hh) hB rfl
  have b2 := cell_of (i := 2) (v := .int .u32 v) hB rfl
  have b3 := cell_of (i := 3) (v := .int .u32 m) hB rfl
  have b4 := cell_of (i := 4) (v := .int .i64 t) hB rfl
  replace hB := Lib.hid hB
  replace hne := Lib.hid hne
  first | go_region_with (go_at_call 21; refine (rfits_ok c hh v m t S.k hk _).mono ?_; rintro e wr ⟨rfl, hg1⟩; replace hg1 := Lib.hid hg1; have hb1 := (hg1.out.block Z ((Array.getElem?_eq_some_iff.1 hB.out).1) (by simp)).trans hB.out; have b0' := cell_of (i := 0) (v := .int .u8 c) hb1 rfl; have b1' := cell_of (i := 1) (v := .int .u32 hh) hb1 rfl; have b2' := cell_of (i := 2) (v := .int .u32 v) hb1 rfl; have b3' := cell_of (i := 3) (v := .int .u32 m) hb1 rfl; have b4' := cell_of (i := 4) (v := .int .i64 t) hb1 rfl; replace hb1 := Lib.hid hb1; have hG := Lib.hid (grown_trans hg0.out (grown_undrew hg1.out)); have hRw := hR.out.keep (grown_undrew hg1.out); have r2' := hRw.c2; have r3' := hRw.c3; have r4' := hRw.c4; have z3' := hRw.fz 3; have z4' := hRw.fz 4; replace hRw := Lib.hid hRw) | fail
  all_goals go_wp2_with fail
  all_goals go_ret2
  all_goals first | exact ⟨rfl, grown_drewN hG.out 1⟩ | exact ⟨rfl, hG.out⟩
end
set_option maxRecDepth 100000 in
set_option maxHeartbeats 16000000 in
theorem rtry_much (h : RQ w R vr vo S) (hk : 1 ≤ S.k ∧ S.k ≤ 6) (who c hh v m t : Int) (hw : who ≠ 0) (h6 : S.k ≠ 6) (hc : c ∈ fitL S.k) (h11 : c = 11) (hm : 3 < m) :
    Calls Tryz.prog 10 #[.pointer (some ⟨R, 0, none⟩), .int .u32 who, askV c hh v m t] w fun e w' => e = .returned (.tuple #[.int .u32 0, .int .i64 1]) ∧ w.grownBy w' none := by
  have hw0 : (who == 0) = false := by simpa using hw
  have hk6 : ((S.k : Int) == 6) = false := by rw [beq_eq_false_iff_ne]; omega
  have hin : decide (c ∈ fitL S.k) = true := by simpa using hc
  have he : (c == 11) = true := by simp [h11]
  have hmm : decide (3 < m) = true := by simpa using hm
  replace h11 := Lib.hid h11
  clear hw hc h6 hm
  have hg0 := Lib.hid (World.grownBy_alloc w (.cells #[.int .u8 c, .int .u32 hh, .int .u32 v, .int .u32 m, .int .i64 t] 39) none)
  have hB := World.alloc_heap_new w (.cells #[.int .u8 c, .int .u32 hh, .int .u32 v, .int .u32 m, .int .i64 t] 39)
  have hR := Lib.hid (h.keep hg0.out)
  have hne : R ≠ w.heap.size := by have := h.lt R (.inl rfl); omega
  have hRl : R < w.heap.size := h.lt R (.inl rfl)
  have r0 := hR.out.c0
  unfold askV
  go_enter Tryz.func10, Tryz.ntmps10
  clear h
  go_wp2_with fail
  generalize w.alloc (.cells #[.int .u8 c, .int .u32 hh, .int .u32 v, .int .u32 m, .int .i64 t] 39) = W0 at *
  generalize w.heap.size = Z at *
  have b0 := cell_of (i := 0) (v := .int .u8 c) hB rfl
  have b1 := cell_of (i := 1) (v := .int .u32 hh) hB rfl
  have b2 := cell_of (i := 2) (v := .int .u32 v) hB rfl
  have b3 := cell_of (i := 3) (v := .int .u32 m) hB rfl
  have b4 := cell_of (i := 4) (v := .int .i64 t) hB rfl
  replace hB := Lib.hid hB
  replace hne := Lib.hid hne
  first | go_region_with (go_at_call 21; refine (rfits_ok c hh v m t S.k hk _).mono ?_; rintro e wr ⟨rfl, hg1⟩; replace hg1 := Lib.hid hg1; have hb1 := (hg1.out.block Z ((Array.getElem?_eq_some_iff.1 hB.out).1) (by simp)).trans hB.out; have b0' := cell_of (i := 0) (v := .int .u8 c) hb1 rfl; have b1' := cell_of (i := 1) (v := .int .u32 hh) hb1 rfl; have b2' := cell_of (i := 2) (v := .int .u32 v) hb1 rfl; have b3' := cell_of (i := 3) (v := .int .u32 m) hb1 rfl; have b4' := cell_of (i := 4) (v := .int .i64 t) hb1 rfl; replace hb1 := Lib.hid hb1; have hG := Lib.hid (grown_trans hg0.out (grown_undrew hg1.out)); have hRw := hR.out.keep (grown_undrew hg1.out); have r2' := hRw.c2; have r3' := hRw.c3; have r4' := hRw.c4; have z3' := hRw.fz 3; have z4' := hRw.fz 4; replace hRw := Lib.hid hRw) | fail
  all_goals go_wp2_with fail
  all_goals go_ret2
  all_goals first | exact ⟨rfl, grown_drewN hG.out 1⟩ | exact ⟨rfl, hG.out⟩
set_option maxRecDepth 100000 in
set_option maxHeartbeats 16000000 in
theorem rtry_more (h : RQ w R vr vo S) (hk : 1 ≤ S.k ∧ S.k ≤ 6) (who c hh v m t : Int) (hw : who ≠ 0) (h6 : S.k ≠ 6) (hc : c ∈ fitL S.k) (hcm : c = 11 → m ≤ 3) (hc3 : c ≠ 3 ∧ c ≠ 4 ∧ c ≠ 5 ∧ c ≠ 6) {Rm : World → Value → Value → World → Prop}
    (hmore : ∀ W, w.grownBy W none → Calls Tryz.prog 22 #[.pointer (some ⟨R, 0, none⟩), .int .u32 who, askV c hh v m t] W fun e w' => ∃ u r, e = .returned (.tuple #[u, r]) ∧ Rm W u r w') :
    Calls Tryz.prog 10 #[.pointer (some ⟨R, 0, none⟩), .int .u32 who, askV c hh v m t] w fun e w' => ∃ W u r, w.grownBy W none ∧ e = .returned (.tuple #[u, r]) ∧ Rm W u r w' := by
  have hw0 : (who == 0) = false := by simpa using hw
  have hk6 : ((S.k : Int) == 6) = false := by rw [beq_eq_false_iff_ne]; omega
  have hin : decide (c ∈ fitL S.k) = true := by simpa using hc
  obtain ⟨e3, e4, e5, e6⟩ : (c == 3) = false ∧ (c == 4) = false ∧ (c == 5) = false ∧ (c == 6) = false := by simpa using hc3
  replace hmore := Lib.hid hmore
  unfold askV at hmore
  clear hw hc h6 hc3
  by_cases h11 : c = 11
  · have hm3 : m ≤ 3 := hcm h11
    have hmm : decide (3 < m) = false := by simp; omega
    have he : (c == 11) = true := by simp [h11]
    replace h11 := Lib.hid h11
    replace hcm := Lib.hid hcm
    have hg0 := Lib.hid (World.grownBy_alloc w (.cells #[.int .u8 c, .int .u32 hh, .int .u32 v, .int .u32 m, .int .i64 t] 39) none)
    have hB := World.alloc_heap_new w (.cells #[.int .u8 c, .int .u32 hh, .int .u32 v, .int .u32 m, .int .i64 t] 39)
    have hR := Lib.hid (h.keep hg0.out)
    have hne : R ≠ w.heap.size := by have := h.lt R (.inl rfl); omega
    have hRl : R < w.heap.size := h.lt R (.inl rfl)
    have r0 := hR.out.c0
    unfold askV
    go_enter Tryz.func10, Tryz.ntmps10
    clear h
    go_wp2_with fail
    generalize w.alloc (.cells #[.int .u8 c, .int .u32 hh, .int .u32 v, .int .u32 m, .int .i64 t] 39) = W0 at *
    generalize w.heap.size = Z at *
    have b0 := cell_of (i := 0) (v := .int .u8 c) hB rfl
    have b1 := cell_of (i := 1) (v := .int .u32 hh) hB rfl
    have b2 := cell_of (i := 2) (v := .int .u32 v) hB rfl
    have b3 := cell_of (i := 3) (v := .int .u32 m) hB rfl
    have b4 := cell_of (i := 4) (v := .int .i64 t) hB rfl
    replace hB := Lib.hid hB
    replace hne := Lib.hid hne
    first | go_region_with (go_at_call 21; refine (rfits_ok c hh v m t S.k hk _).mono ?_; rintro e wr ⟨rfl, hg1⟩; replace hg1 := Lib.hid hg1; have hb1 := (hg1.out.block Z ((Array.getElem?_eq_some_iff.1 hB.out).1) (by simp)).trans hB.out; have b0' := cell_of (i := 0) (v := .int .u8 c) hb1 rfl; have b1' := cell_of (i := 1) (v := .int .u32 hh) hb1 rfl; have b2' := cell_of (i := 2) (v := .int .u32 v) hb1 rfl; have b3' := cell_of (i := 3) (v := .int .u32 m) hb1 rfl; have b4' := cell_of (i := 4) (v := .int .i64 t) hb1 rfl; replace hb1 := Lib.hid hb1; have hG := Lib.hid (grown_trans hg0.out (grown_undrew hg1.out)); have hRw := hR.out.keep (grown_undrew hg1.out); have r2' := hRw.c2; have r3' := hRw.c3; have r4' := hRw.c4; have z3' := hRw.fz 3; have z4' := hRw.fz 4; replace hRw := Lib.hid hRw) | fail
    all_goals go_wp2_with fail
    all_goals
      refine (hmore.out _ (by first | exact hG.out | exact grown_drewN hG.out 1)).mono ?_
      rintro e w2 ⟨u, r, rfl, hRm⟩
      replace hRm := Lib.hid hRm
      go_wp2_with fail
      go_ret2
      exact ⟨_, u, r, (by first | exact hG.out | exact grown_drewN hG.out 1), rfl, hRm.out⟩
  · have he : (c == 11) = false := by simpa using h11
    replace h11 := Lib.hid h11
    replace hcm := Lib.hid hcm
    have hg0 := Lib.hid (World.grownBy_alloc w (.cells #[.int .u8 c, .int .u32 hh, .int .u32 v, .int .u32 m, .int .i64 t] 39) none)
    have hB := World.alloc_heap_new w (.cells #[.int .u8 c, .int .u32 hh, .int .u32 v, .int .u32 m, .int .i64 t] 39)
    have hR := Lib.hid (h.keep hg0.out)
    have hne : R ≠ w.heap.size := by have := h.lt R (.inl rfl); omega
    have hRl : R < w.heap.size := h.lt R (.inl rfl)
    have r0 := hR.out.c0
    unfold askV
    go_enter Tryz.func10, Tryz.ntmps10
    clear h
    go_wp2_with fail
    generalize w.alloc (.cells #[.int .u8 c, .int .u32 hh, .int .u32 v, .int .u32 m, .int .i64 t] 39) = W0 at *
    generalize w.heap.size = Z at *
    have b0 := cell_of (i := 0) (v := .int .u8 c) hB rfl
    have b1 := cell_of (i := 1) (v := .int .u32 hh) hB rfl
    have b2 := cell_of (i := 2) (v := .int .u32 v) hB rfl
    have b3 := cell_of (i := 3) (v := .int .u32 m) hB rfl
    have b4 := cell_of (i := 4) (v := .int .i64 t) hB rfl
    replace hB := Lib.hid hB
    replace hne := Lib.hid hne
    first | go_region_with (go_at_call 21; refine (rfits_ok c hh v m t S.k hk _).mono ?_; rintro e wr ⟨rfl, hg1⟩; replace hg1 := Lib.hid hg1; have hb1 := (hg1.out.block Z ((Array.getElem?_eq_some_iff.1 hB.out).1) (by simp)).trans hB.out; have b0' := cell_of (i := 0) (v := .int .u8 c) hb1 rfl; have b1' := cell_of (i := 1) (v := .int .u32 hh) hb1 rfl; have b2' := cell_of (i := 2) (v := .int .u32 v) hb1 rfl; have b3' := cell_of (i := 3) (v := .int .u32 m) hb1 rfl; have b4' := cell_of (i := 4) (v := .int .i64 t) hb1 rfl; replace hb1 := Lib.hid hb1; have hG := Lib.hid (grown_trans hg0.out (grown_undrew hg1.out)); have hRw := hR.out.keep (grown_undrew hg1.out); have r2' := hRw.c2; have r3' := hRw.c3; have r4' := hRw.c4; have z3' := hRw.fz 3; have z4' := hRw.fz 4; replace hRw := Lib.hid hRw) | fail
    all_goals go_wp2_with fail
    all_goals
      refine (hmore.out _ (by first | exact hG.out | exact grown_drewN hG.out 1)).mono ?_
      rintro e w2 ⟨u, r, rfl, hRm⟩
      replace hRm := Lib.hid hRm
      go_wp2_with fail
      go_ret2
      exact ⟨_, u, r, (by first | exact hG.out | exact grown_drewN hG.out 1), rfl, hRm.out⟩
end RefO
end Go.Proofs.YtneamjaglgnmkaaGreatDoor
