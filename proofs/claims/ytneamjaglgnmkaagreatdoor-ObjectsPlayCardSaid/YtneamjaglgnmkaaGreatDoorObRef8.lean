/- timekeeperref18: Try of semaphores and mutexes. -/
import Derived.Test.YtneamjaglgnmkaaGreatDoorObRef7
namespace Go.Proofs.YtneamjaglgnmkaaGreatDoor
open Go.RowKit Go.Shelf Tk Tk.Msk
set_option linter.unusedVariables false
set_option linter.unusedSimpArgs false
namespace RefO
variable {w : World} {R : Nat} {vr vo : Value} {S : TR}
theorem fin0 {w W : World} (n : Nat) (h : w.grownBy W none) : w.grownBy (W.drewN n) none := grown_drewN h n
set_option maxRecDepth 100000 in
set_option maxHeartbeats 16000000 in
theorem rtry_take (h : RQ w R vr vo S) (hk0 : S.k = 1) (hn : 0 ≤ S.n ∧ S.n < 4294967296) (who hh v m t : Int) (hw : who ≠ 0) :
    Calls Tryz.prog 10 #[.pointer (some ⟨R, 0, none⟩), .int .u32 who, askV 3 hh v m t] w fun e w' => (S.n = 0 ∧ e = .returned (.tuple #[.int .u32 0, .int .i64 7]) ∧ w.grownBy w' none) ∨ (S.n ≠ 0 ∧ e = .returned (.tuple #[.int .u32 0, .int .i64 0]) ∧ Post w R vr vo { S with n := S.n - 1 } w') := by
  have hk : 1 ≤ S.k ∧ S.k ≤ 6 := by omega
  have hw0 : (who == 0) = false := by simpa using hw
  have hk6 : ((S.k : Int) == 6) = false := by rw [beq_eq_false_iff_ne]; omega
  have hin : decide ((3 : Int) ∈ fitL S.k) = true := by rw [hk0]; decide
  have hhw := Lib.hid hw
  clear hw hk0
  have hg0 := Lib.hid (World.grownBy_alloc w (.cells #[.int .u8 3, .int .u32 hh, .int .u32 v, .int .u32 m, .int .i64 t] 39) none)
  have hB := World.alloc_heap_new w (.cells #[.int .u8 3, .int .u32 hh, .int .u32 v, .int .u32 m, .int .i64 t] 39)
  have hR := Lib.hid (h.keep hg0.out)
  have hne : R ≠ w.heap.size := by have := h.lt R (.inl rfl); omega
  have hRl : R < w.heap.size := h.lt R (.inl rfl)
  have r0 := hR.out.c0
  unfold askV
  go_enter Tryz.func10, Tryz.ntmps10
  clear h
  go_wp2_with fail
  generalize w.alloc (.cells #[.int .u8 3, .int .u32 hh, .int .u32 v, .int .u32 m, .int .i64 t] 39) = W0 at *
  generalize w.heap.size = Z at *
  have b0 := cell_of (i := 0) (v := .int .u8 3) hB rfl
  have b1 := cell_of (i := 1) (v := .int .u32 hh) hB rfl
  have b2 := cell_of (i := 2) (v := .int .u32 v) hB rfl
  have b3 := cell_of (i := 3) (v := .int .u32 m) hB rfl
  have b4 := cell_of (i := 4) (v := .int .i64 t) hB rfl
  replace hB := Lib.hid hB
  replace hne := Lib.hid hne
  first | go_region_with (go_at_call 21; refine (rfits_ok 3 hh v m t S.k hk _).mono ?_; rintro e wr ⟨rfl, hg1⟩; replace hg1 := Lib.hid hg1; have hb1 := (hg1.out.block Z ((Array.getElem?_eq_some_iff.1 hB.out).1) (by simp)).trans hB.out; have b0' := cell_of (i := 0) (v := .int .u8 3) hb1 rfl; have b1' := cell_of (i := 1) (v := .int .u32 hh) hb1 rfl; have b2' := cell_of (i := 2) (v := .int .u32 v) hb1 rfl; have b3' := cell_of (i := 3) (v := .int .u32 m) hb1 rfl; have b4' := cell_of (i := 4) (v := .int .i64 t) hb1 rfl; replace hb1 := Lib.hid hb1; have hG := Lib.hid (grown_trans hg0.out (grown_undrew hg1.out)); have hRw := hR.out.keep (grown_undrew hg1.out); have r2' := hRw.c2; have r3' := hRw.c3; have r4' := hRw.c4; have z3' := hRw.fz 3; have z4' := hRw.fz 4; replace hRw := Lib.hid hRw) | fail
  all_goals
    clear r0 b0 b1 b2 b3 b4 hB hR hg0
    generalize S.k = SK at *
    by_cases hz : S.n = 0
    · rw [hz] at r3'
      replace hz := Lib.hid hz
      clear hn
      go_wp2_with fail
      go_ret2
      exact .inl ⟨hz.out, rfl, hG.out⟩
    · have hwn : IntKind.u32.wrap (S.n - 1) = S.n - 1 := by rw [IntKind.wrap_u32]; omega
      have hz2 : (S.n == 0) = false := by simpa using hz
      have hP := Lib.hid (hRw.out.postN hG.out (S.n - 1))
      replace hz := Lib.hid hz
      clear hn
      go_wp2_with fail
      go_ret2
      exact .inr ⟨hz.out, rfl, hP.out⟩
set_option maxRecDepth 100000 in
set_option maxHeartbeats 16000000 in
theorem rtry_give (h : RQ w R vr vo S) (hk0 : S.k = 1) (hn : 0 ≤ S.n ∧ S.b < 4294967296) (who hh v m t : Int) (hw : who ≠ 0) :
    Calls Tryz.prog 10 #[.pointer (some ⟨R, 0, none⟩), .int .u32 who, askV 4 hh v m t] w fun e w' => (S.b ≤ S.n ∧ e = .returned (.tuple #[.int .u32 0, .int .i64 10]) ∧ w.grownBy w' none) ∨ (S.n < S.b ∧ e = .returned (.tuple #[.int .u32 0, .int .i64 0]) ∧ Post w R vr vo { S with n := S.n + 1 } w') := by
  have hk : 1 ≤ S.k ∧ S.k ≤ 6 := by omega
  have hw0 : (who == 0) = false := by simpa using hw
  have hk6 : ((S.k : Int) == 6) = false := by rw [beq_eq_false_iff_ne]; omega
  have hin : decide ((4 : Int) ∈ fitL S.k) = true := by rw [hk0]; decide
  have hhw := Lib.hid hw
  clear hw hk0
  have hg0 := Lib.hid (World.grownBy_alloc w (.cells #[.int .u8 4, .int .u32 hh, .int .u32 v, .int .u32 m, .int .i64 t] 39) none)
  have hB := World.alloc_heap_new w (.cells #[.int .u8 4, .int .u32 hh, .int .u32 v, .int .u32 m, .int .i64 t] 39)
  have hR := Lib.hid (h.keep hg0.out)
  have hne : R ≠ w.heap.size := by have := h.lt R (.inl rfl); omega
  have hRl : R < w.heap.size := h.lt R (.inl rfl)
  have r0 := hR.out.c0
  unfold askV
  go_enter Tryz.func10, Tryz.ntmps10
  clear h
  go_wp2_with fail
  generalize w.alloc (.cells #[.int .u8 4, .int .u32 hh, .int .u32 v, .int .u32 m, .int .i64 t] 39) = W0 at *
  generalize w.heap.size = Z at *
  have b0 := cell_of (i := 0) (v := .int .u8 4) hB rfl
  have b1 := cell_of (i := 1) (v := .int .u32 hh) hB rfl
  have b2 := cell_of (i := 2) (v := .int .u32 v) hB rfl
  have b3 := cell_of (i := 3) (v := .int .u32 m) hB rfl
  have b4 := cell_of (i := 4) (v := .int .i64 t) hB rfl
  replace hB := Lib.hid hB
  replace hne := Lib.hid hne
  first | go_region_with (go_at_call 21; refine (rfits_ok 4 hh v m t S.k hk _).mono ?_; rintro e wr ⟨rfl, hg1⟩; replace hg1 := Lib.hid hg1; have hb1 := (hg1.out.block Z ((Array.getElem?_eq_some_iff.1 hB.out).1) (by simp)).trans hB.out; have b0' := cell_of (i := 0) (v := .int .u8 4) hb1 rfl; have b1' := cell_of (i := 1) (v := .int .u32 hh) hb1 rfl; have b2' := cell_of (i := 2) (v := .int .u32 v) hb1 rfl; have b3' := cell_of (i := 3) (v := .int .u32 m) hb1 rfl; have b4' := cell_of (i := 4) (v := .int .i64 t) hb1 rfl; replace hb1 := Lib.hid hb1; have hG := Lib.hid (grown_trans hg0.out (grown_undrew hg1.out)); have hRw := hR.out.keep (grown_undrew hg1.out); have r2' := hRw.c2; have r3' := hRw.c3; have r4' := hRw.c4; have z3' := hRw.fz 3; have z4' := hRw.fz 4; replace hRw := Lib.hid hRw) | fail
  all_goals
    clear r0 b0 b1 b2 b3 b4 hB hR hg0
    generalize S.k = SK at *
    by_cases hz : S.b ≤ S.n
    · have hz2 : decide (S.b ≤ S.n) = true := decide_eq_true hz
      clear hn
      go_wp2_with fail
      go_quiet (fail)
      go_wp2_with fail
      go_ret2
      exact .inl ⟨hz, rfl, grown_drewN hG.out _⟩
    · have hwn : IntKind.u32.wrap (S.n + 1) = S.n + 1 := by rw [IntKind.wrap_u32]; omega
      have hz2 : decide (S.b ≤ S.n) = false := decide_eq_false hz
      have hlt : S.n < S.b := by omega
      replace hlt := Lib.hid hlt
      have hP := Lib.hid (fun nn => RQ.postN (W := wr.drewN nn) (hRw.out.keep (grown_drewN (grown_refl _ _) nn)) (grown_drewN hG.out nn) (S.n + 1))
      clear hn
      go_wp2_with fail
      go_quiet (fail)
      go_wp2_with fail
      go_ret2
      exact .inr ⟨hlt.out, rfl, hP.out _⟩
set_option maxRecDepth 100000 in
set_option maxHeartbeats 16000000 in
theorem rtry_lock (h : RQ w R vr vo S) (hk0 : S.k = 2) (who hh v m t : Int) (hw : who ≠ 0) :
    Calls Tryz.prog 10 #[.pointer (some ⟨R, 0, none⟩), .int .u32 who, askV 5 hh v m t] w fun e w' => (S.o = who ∧ e = .returned (.tuple #[.int .u32 0, .int .i64 13]) ∧ w.grownBy w' none) ∨ (S.o ≠ who ∧ S.o ≠ 0 ∧ e = .returned (.tuple #[.int .u32 0, .int .i64 7]) ∧ w.grownBy w' none) ∨ (S.o ≠ who ∧ S.o = 0 ∧ e = .returned (.tuple #[.int .u32 0, .int .i64 0]) ∧ Post w R vr vo { S with o := who } w') := by
  have hk : 1 ≤ S.k ∧ S.k ≤ 6 := by omega
  have hw0 : (who == 0) = false := by simpa using hw
  have hk6 : ((S.k : Int) == 6) = false := by rw [beq_eq_false_iff_ne]; omega
  have hin : decide ((5 : Int) ∈ fitL S.k) = true := by rw [hk0]; decide
  have hhw := Lib.hid hw
  clear hw hk0
  have hg0 := Lib.hid (World.grownBy_alloc w (.cells #[.int .u8 5, .int .u32 hh, .int .u32 v, .int .u32 m, .int .i64 t] 39) none)
  have hB := World.alloc_heap_new w (.cells #[.int .u8 5, .int .u32 hh, .int .u32 v, .int .u32 m, .int .i64 t] 39)
  have hR := Lib.hid (h.keep hg0.out)
  have hne : R ≠ w.heap.size := by have := h.lt R (.inl rfl); omega
  have hRl : R < w.heap.size := h.lt R (.inl rfl)
  have r0 := hR.out.c0
  unfold askV
  go_enter Tryz.func10, Tryz.ntmps10
  clear h
  go_wp2_with fail
  generalize w.alloc (.cells #[.int .u8 5, .int .u32 hh, .int .u32 v, .int .u32 m, .int .i64 t] 39) = W0 at *
  generalize w.heap.size = Z at *
  have b0 := cell_of (i := 0) (v := .int .u8 5) hB rfl
  have b1 := cell_of (i := 1) (v := .int .u32 hh) hB rfl
  have b2 := cell_of (i := 2) (v := .int .u32 v) hB rfl
  have b3 := cell_of (i := 3) (v := .int .u32 m) hB rfl
  have b4 := cell_of (i := 4) (v := .int .i64 t) hB rfl
  replace hB := Lib.hid hB
  replace hne := Lib.hid hne
  first | go_region_with (go_at_call 21; refine (rfits_ok 5 hh v m t S.k hk _).mono ?_; rintro e wr ⟨rfl, hg1⟩; replace hg1 := Lib.hid hg1; have hb1 := (hg1.out.block Z ((Array.getElem?_eq_some_iff.1 hB.out).1) (by simp)).trans hB.out; have b0' := cell_of (i := 0) (v := .int .u8 5) hb1 rfl; have b1' := cell_of (i := 1) (v := .int .u32 hh) hb1 rfl; have b2' := cell_of (i := 2) (v := .int .u32 v) hb1 rfl; have b3' := cell_of (i := 3) (v := .int .u32 m) hb1 rfl; have b4' := cell_of (i := 4) (v := .int .i64 t) hb1 rfl; replace hb1 := Lib.hid hb1; have hG := Lib.hid (grown_trans hg0.out (grown_undrew hg1.out)); have hRw := hR.out.keep (grown_undrew hg1.out); have r2' := hRw.c2; have r3' := hRw.c3; have r4' := hRw.c4; have z3' := hRw.fz 3; have z4' := hRw.fz 4; replace hRw := Lib.hid hRw) | fail
  all_goals
    clear r0 b0 b1 b2 b3 b4 hB hR hg0
    generalize S.k = SK at *
    by_cases hz : S.o = who
    · rw [hz] at r4'
      replace hz := Lib.hid hz
      go_wp2_with fail
      go_ret2
      exact .inl ⟨hz.out, rfl, hG.out⟩
    · have hz2 : (S.o == who) = false := by simpa using hz
      by_cases h0 : S.o = 0
      · rw [h0] at r4' hz2
        have hP := Lib.hid (hRw.out.postO hG.out who)
        replace hz := Lib.hid hz
        replace h0 := Lib.hid h0
        go_wp2_with fail
        go_ret2
        exact .inr (.inr ⟨hz.out, h0.out, rfl, hP.out⟩)
      · have hz3 : (S.o != 0) = true := by simpa using h0
        replace hz := Lib.hid hz
        replace h0 := Lib.hid h0
        go_wp2_with fail
        go_ret2
        exact .inr (.inl ⟨hz.out, h0.out, rfl, hG.out⟩)
set_option maxRecDepth 100000 in
set_option maxHeartbeats 16000000 in
theorem rtry_unlock (h : RQ w R vr vo S) (hk0 : S.k = 2) (who hh v m t : Int) (hw : who ≠ 0) :
    Calls Tryz.prog 10 #[.pointer (some ⟨R, 0, none⟩), .int .u32 who, askV 6 hh v m t] w fun e w' => (S.o ≠ who ∧ e = .returned (.tuple #[.int .u32 0, .int .i64 13]) ∧ w.grownBy w' none) ∨ (S.o = who ∧ e = .returned (.tuple #[.int .u32 0, .int .i64 0]) ∧ Post w R vr vo { S with o := 0 } w') := by
  have hk : 1 ≤ S.k ∧ S.k ≤ 6 := by omega
  have hw0 : (who == 0) = false := by simpa using hw
  have hk6 : ((S.k : Int) == 6) = false := by rw [beq_eq_false_iff_ne]; omega
  have hin : decide ((6 : Int) ∈ fitL S.k) = true := by rw [hk0]; decide
  have hhw := Lib.hid hw
  clear hw hk0
  have hg0 := Lib.hid (World.grownBy_alloc w (.cells #[.int .u8 6, .int .u32 hh, .int .u32 v, .int .u32 m, .int .i64 t] 39) none)
  have hB := World.alloc_heap_new w (.cells #[.int .u8 6, .int .u32 hh, .int .u32 v, .int .u32 m, .int .i64 t] 39)
  have hR := Lib.hid (h.keep hg0.out)
  have hne : R ≠ w.heap.size := by have := h.lt R (.inl rfl); omega
  have hRl : R < w.heap.size := h.lt R (.inl rfl)
  have r0 := hR.out.c0
  unfold askV
  go_enter Tryz.func10, Tryz.ntmps10
  clear h
  go_wp2_with fail
  generalize w.alloc (.cells #[.int .u8 6, .int .u32 hh, .int .u32 v, .int .u32 m, .int .i64 t] 39) = W0 at *
  generalize w.heap.size = Z at *
  have b0 := cell_of (i := 0) (v := .int .u8 6) hB rfl
  have b1 := cell_of (i := 1) (v := .int .u32 hh) hB rfl
  have b2 := cell_of (i := 2) (v := .int .u32 v) hB rfl
  have b3 := cell_of (i := 3) (v := .int .u32 m) hB rfl
  have b4 := cell_of (i := 4) (v := .int .i64 t) hB rfl
  replace hB := Lib.hid hB
  replace hne := Lib.hid hne
  first | go_region_with (go_at_call 21; refine (rfits_ok 6 hh v m t S.k hk _).mono ?_; rintro e wr ⟨rfl, hg1⟩; replace hg1 := Lib.hid hg1; have hb1 := (hg1.out.block Z ((Array.getElem?_eq_some_iff.1 hB.out).1) (by simp)).trans hB.out; have b0' := cell_of (i := 0) (v := .int .u8 6) hb1 rfl; have b1' := cell_of (i := 1) (v := .int .u32 hh) hb1 rfl; have b2' := cell_of (i := 2) (v := .int .u32 v) hb1 rfl; have b3' := cell_of (i := 3) (v := .int .u32 m) hb1 rfl; have b4' := cell_of (i := 4) (v := .int .i64 t) hb1 rfl; replace hb1 := Lib.hid hb1; have hG := Lib.hid (grown_trans hg0.out (grown_undrew hg1.out)); have hRw := hR.out.keep (grown_undrew hg1.out); have r2' := hRw.c2; have r3' := hRw.c3; have r4' := hRw.c4; have z3' := hRw.fz 3; have z4' := hRw.fz 4; replace hRw := Lib.hid hRw) | fail
  all_goals
    clear r0 b0 b1 b2 b3 b4 hB hR hg0
    generalize S.k = SK at *
    by_cases hz : S.o = who
    · rw [hz] at r4'
      have hbb : (who != who) = false := by simp
      have hP := Lib.hid (hRw.out.postO hG.out 0)
      replace hz := Lib.hid hz
      go_wp2_with fail
      go_ret2
      exact .inr ⟨hz.out, rfl, hP.out⟩
    · have hz2 : (S.o != who) = true := by simpa using hz
      replace hz := Lib.hid hz
      go_wp2_with fail
      go_ret2
      exact .inl ⟨hz.out, rfl, hG.out⟩
end RefO
end Go.Proofs.YtneamjaglgnmkaaGreatDoor
