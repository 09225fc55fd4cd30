/- Package objects: flags. -/
import Derived.Test.YtneamjaglgnmkaaGreatDoorObE
import Derived.Test.YtneamjaglgnmkaaGreatDoorObM3
namespace Go.Proofs.YtneamjaglgnmkaaGreatDoor
open Go.RowKit Go.Shelf Tk Tk.Msk
set_option linter.unusedVariables false
set_option linter.unusedSimpArgs false
theorem grown_cell {w w' : World} (h : w.grownBy w' none) {p : Addr} {v : Value} (hc : w.cell? p = some v) : w'.cell? p = some v := by
  have hb : p.block < w.heap.size := by
    unfold World.cell? at hc
    split at hc
    · rename_i hh; exact (Array.getElem?_eq_some_iff.1 hh).1
    · cases hc
  rw [← hc]; exact World.cell?_of_block (w := w) (h.block p.block hb (by simp))
/-- The flags' cell. -/
def FlgB (w : World) (q n : Nat) : Prop := w.heap[q]? = some (.cells #[.int .u32 n] 80 (0, 0))
theorem FlgB.lt {w : World} {q n : Nat} (h : FlgB w q n) : q < w.heap.size := (Array.getElem?_eq_some_iff.1 h).1
theorem FlgB.kept {w w' : World} {q n : Nat} {r : Option Nat} (h : FlgB w q n) (hg : w.grownBy w' r) (hr : r ≠ some q) : FlgB w' q n := (hg.block q h.lt (fun e => hr e.symm)).trans h
theorem FlgB.set {w : World} {q n : Nat} (h : FlgB w q n) (x : Nat) : FlgB (w.setCell ⟨q, 0, none⟩ (.int .u32 x)) q x := by
  obtain ⟨hlt, hk'⟩ := Array.getElem?_eq_some_iff.1 h
  show (w.heap.modify q _)[q]? = _
  rw [Array.getElem?_eq_getElem (by rw [Array.size_modify]; exact hlt), Array.getElem_modify_self, hk']
  simp
theorem flags_fin {w W : World} {q n : Nat} (h : FlgB W q n) (hg : w.grownBy W none) (x : Nat) : FlgB (W.setCell ⟨q, 0, none⟩ (.int .u32 x)) q x ∧ w.grownBy (W.setCell ⟨q, 0, none⟩ (.int .u32 x)) (some q) :=
  ⟨h.set x, grown_trans (grown_weaken _ hg) (grownBy_setCell _ _ _ _)⟩
set_option maxRecDepth 100000 in
set_option maxHeartbeats 4000000 in
theorem FlgB.raise {w : World} {q n : Nat} (h : FlgB w q n) (hn : n < 4294967296) (v : Nat) (hv : v < 4294967296) (who hh x t : Int) :
    Calls Tryz.prog 127 #[.pointer (some ⟨q, 0, none⟩), .int .u32 who, askV 12 hh v x t] w fun e w' => e = .returned (.tuple #[.int .u32 (n ||| v : Nat), .int .i64 0]) ∧ FlgB w' q (n ||| v) ∧ w.grownBy w' (some q) := by
  have hb := or_u32 hn hv
  generalize n ||| v = m at *
  clear hn hv
  have hg0 := Lib.hid (World.grownBy_alloc w (.cells #[.int .u8 12, .int .u32 hh, .int .u32 v, .int .u32 x, .int .i64 t] 39) none)
  have hB := World.alloc_heap_new w (.cells #[.int .u8 12, .int .u32 hh, .int .u32 v, .int .u32 x, .int .i64 t] 39)
  have hN : (w.alloc (.cells #[.int .u8 12, .int .u32 hh, .int .u32 v, .int .u32 x, .int .i64 t] 39)).heap.size = w.heap.size + 1 := World.size_alloc _ _
  have hF := Lib.hid (h.kept hg0.out (by simp))
  have hne : q ≠ w.heap.size := by have := h.lt; omega
  have c0 := cell_of (i := 0) (v := .int .u32 n) hF.out rfl
  have z0 := frozen_of (i := 0) hF.out
  have b0 := cell_of (i := 0) (v := .int .u8 12) hB rfl
  have b2 := cell_of (i := 2) (v := .int .u32 v) hB rfl
  have b3 := cell_of (i := 3) (v := .int .u32 x) hB rfl
  unfold askV
  go_enter Tryz.func127, Tryz.ntmps127
  go_wp2_with fail
  generalize w.alloc (.cells #[.int .u8 12, .int .u32 hh, .int .u32 v, .int .u32 x, .int .i64 t] 39) = W0 at *
  generalize w.heap.size = Z at *
  replace hB := Lib.hid hB
  replace hne := Lib.hid hne
  clear h hN
  go_still_tail 9, (by kernel_rfl)
  change wpList _ _ _ _ _ W0.drew
  have hF1 : FlgB W0.drew q n := hF.out
  have hG1 : w.grownBy W0.drew none := grown_drewN hg0.out 1
  generalize W0.drew = W at *
  clear c0 z0 b0 b2 b3 hF hB
  have c0 := cell_of (i := 0) (v := .int .u32 n) hF1 rfl
  have z0 := frozen_of (i := 0) hF1
  have hfin := Lib.hid (flags_fin hF1 hG1 m)
  have c1 := cell_of (i := 0) (v := .int .u32 m) hfin.out.1 rfl
  replace hF1 := Lib.hid hF1
  go_wp2_with fail
  go_ret2
  exact ⟨rfl, hfin.out.1, hfin.out.2⟩
set_option maxRecDepth 100000 in
set_option maxHeartbeats 4000000 in
theorem FlgB.lower {w : World} {q n : Nat} (h : FlgB w q n) (hn : n < 4294967296) (v : Nat) (hv : v < 4294967296) (who hh x t : Int) :
    Calls Tryz.prog 127 #[.pointer (some ⟨q, 0, none⟩), .int .u32 who, askV 13 hh v x t] w fun e w' => e = .returned (.tuple #[.int .u32 (goneN n v : Nat), .int .i64 0]) ∧ FlgB w' q (goneN n v) ∧ w.grownBy w' (some q) := by
  have hb := andNot_u32 hn hv
  have hgo : goneN n v = n &&& (4294967295 - v) := rfl
  rw [← hgo] at hb
  clear hgo
  generalize goneN n v = m at *
  clear hn hv
  have hg0 := Lib.hid (World.grownBy_alloc w (.cells #[.int .u8 13, .int .u32 hh, .int .u32 v, .int .u32 x, .int .i64 t] 39) none)
  have hB := World.alloc_heap_new w (.cells #[.int .u8 13, .int .u32 hh, .int .u32 v, .int .u32 x, .int .i64 t] 39)
  have hN : (w.alloc (.cells #[.int .u8 13, .int .u32 hh, .int .u32 v, .int .u32 x, .int .i64 t] 39)).heap.size = w.heap.size + 1 := World.size_alloc _ _
  have hF := Lib.hid (h.kept hg0.out (by simp))
  have hne : q ≠ w.heap.size := by have := h.lt; omega
  have c0 := cell_of (i := 0) (v := .int .u32 n) hF.out rfl
  have z0 := frozen_of (i := 0) hF.out
  have b0 := cell_of (i := 0) (v := .int .u8 13) hB rfl
  have b2 := cell_of (i := 2) (v := .int .u32 v) hB rfl
  have b3 := cell_of (i := 3) (v := .int .u32 x) hB rfl
  unfold askV
  go_enter Tryz.func127, Tryz.ntmps127
  go_wp2_with fail
  generalize w.alloc (.cells #[.int .u8 13, .int .u32 hh, .int .u32 v, .int .u32 x, .int .i64 t] 39) = W0 at *
  generalize w.heap.size = Z at *
  replace hB := Lib.hid hB
  replace hne := Lib.hid hne
  clear h hN
  go_still_tail 9, (by kernel_rfl)
  change wpList _ _ _ _ _ W0.drew
  have hF1 : FlgB W0.drew q n := hF.out
  have hG1 : w.grownBy W0.drew none := grown_drewN hg0.out 1
  generalize W0.drew = W at *
  clear c0 z0 b0 b2 b3 hF hB
  have c0 := cell_of (i := 0) (v := .int .u32 n) hF1 rfl
  have z0 := frozen_of (i := 0) hF1
  have hfin := Lib.hid (flags_fin hF1 hG1 m)
  have c1 := cell_of (i := 0) (v := .int .u32 m) hfin.out.1 rfl
  replace hF1 := Lib.hid hF1
  go_wp2_with fail
  go_ret2
  exact ⟨rfl, hfin.out.1, hfin.out.2⟩
set_option maxRecDepth 100000 in
set_option maxHeartbeats 4000000 in
theorem FlgB.await_no {w : World} {q n : Nat} (h : FlgB w q n) (hn : n < 4294967296) (v : Nat) (hv : v < 4294967296) (x : Nat) (hx : x ≤ 3) (hno : holdsN n v (decide (x % 2 = 1)) = false) (who hh t : Int) :
    Calls Tryz.prog 127 #[.pointer (some ⟨q, 0, none⟩), .int .u32 who, askV 11 hh v x t] w fun e w' => e = .returned (.tuple #[.int .u32 0, .int .i64 7]) ∧ w.grownBy w' none := by
  have d1 : bits .and .u32 (x : Int) 1 = ((x &&& 1 : Nat) : Int) := and_u32 (a := x) (b := 1) (by omega) (by decide)
  have d2 : bits .and .u32 (x : Int) 2 = ((x &&& 2 : Nat) : Int) := and_u32 (a := x) (b := 2) (by omega) (by decide)
  have hal := Lib.hid (mholds_ok n v (decide (x % 2 = 1)) hn hv)
  rw [hno] at hal
  have b4 : (((x &&& 1 : Nat) : Int) == 1) = decide (x % 2 = 1) := by
    rcases (by omega : x = 0 ∨ x = 1 ∨ x = 2 ∨ x = 3) with rfl | rfl | rfl | rfl <;> rfl
  have b5 : (((x &&& 2 : Nat) : Int) == 2) = decide (2 ≤ x) := by
    rcases (by omega : x = 0 ∨ x = 1 ∨ x = 2 ∨ x = 3) with rfl | rfl | rfl | rfl <;> rfl
  rw [← b4] at hal
  clear b4 b5
  generalize x &&& 1 = X1 at *
  generalize x &&& 2 = X2 at *
  clear hn hv hx hno
  have hg0 := Lib.hid (World.grownBy_alloc w (.cells #[.int .u8 11, .int .u32 hh, .int .u32 v, .int .u32 x, .int .i64 t] 39) none)
  have hB := World.alloc_heap_new w (.cells #[.int .u8 11, .int .u32 hh, .int .u32 v, .int .u32 x, .int .i64 t] 39)
  have hN : (w.alloc (.cells #[.int .u8 11, .int .u32 hh, .int .u32 v, .int .u32 x, .int .i64 t] 39)).heap.size = w.heap.size + 1 := World.size_alloc _ _
  have hF := Lib.hid (h.kept hg0.out (by simp))
  have hne : q ≠ w.heap.size := by have := h.lt; omega
  have c0 := cell_of (i := 0) (v := .int .u32 n) hF.out rfl
  have z0 := frozen_of (i := 0) hF.out
  have b0 := cell_of (i := 0) (v := .int .u8 11) hB rfl
  have b2 := cell_of (i := 2) (v := .int .u32 v) hB rfl
  have b3 := cell_of (i := 3) (v := .int .u32 x) hB rfl
  unfold askV
  go_enter Tryz.func127, Tryz.ntmps127
  go_wp2_with fail
  generalize w.alloc (.cells #[.int .u8 11, .int .u32 hh, .int .u32 v, .int .u32 x, .int .i64 t] 39) = W0 at *
  generalize w.heap.size = Z at *
  replace hB := Lib.hid hB
  replace hne := Lib.hid hne
  clear h hN
  go_quiet (fail)
  have hF1 : FlgB (W0.drewN nq) q n := hF.out
  have hB1 : (W0.drewN nq).heap[Z]? = some (.cells #[.int .u8 11, .int .u32 hh, .int .u32 v, .int .u32 x, .int .i64 t] 39) := hB.out
  have hG1 : w.grownBy (W0.drewN nq) none := grown_drewN hg0.out nq
  generalize W0.drewN nq = W at *
  clear c0 z0 b0 b2 b3 hF hB hg0
  have c0 := cell_of (i := 0) (v := .int .u32 n) hF1 rfl
  have b2 := cell_of (i := 2) (v := .int .u32 v) hB1 rfl
  have b3 := cell_of (i := 3) (v := .int .u32 x) hB1 rfl
  replace hF1 := Lib.hid hF1
  replace hB1 := Lib.hid hB1
  replace hG1 := Lib.hid hG1
  go_wp2_with fail
  go_region_held3 (fun w' => w'.cell? ⟨q, 0, none⟩ = some (.int .u32 n) ∧ w'.cell? ⟨Z, 2, none⟩ = some (.int .u32 v)) (first | exact ⟨grown_cell hg7 c0, grown_cell hg7 b2⟩ | exact ⟨c0, b2⟩) (first
    | (go_at_call 128; refine (hal.out _).mono ?_; rintro e w7 ⟨rfl, hg7⟩; have hg7' := Lib.hid (grown_undrew hg7)))
  have hF2 := Lib.hid (hF1.out.kept hg7'.out (by simp))
  have hB2 := Lib.hid (((hg7'.out).block Z ((Array.getElem?_eq_some_iff.1 hB1.out).1) (by simp)).trans hB1.out)
  have hG2 := Lib.hid (grown_trans hG1.out hg7'.out)
  clear hg7 hg7' c0 b2 b3 hF1 hB1 hG1
  go_wp2_with fail
  go_ret2
  exact ⟨rfl, hG2.out⟩
set_option maxRecDepth 100000 in
set_option maxHeartbeats 4000000 in
theorem FlgB.await {w : World} {q n : Nat} (h : FlgB w q n) (hn : n < 4294967296) (v : Nat) (hv : v < 4294967296) (x : Nat) (hx : x ≤ 3) (hno : holdsN n v (decide (x % 2 = 1)) = true) (who hh t : Int) :
    Calls Tryz.prog 127 #[.pointer (some ⟨q, 0, none⟩), .int .u32 who, askV 11 hh v x t] w fun e w' => e = .returned (.tuple #[.int .u32 (metN n v), .int .i64 0]) ∧ FlgB w' q (afterN n v (decide (x % 2 = 1)) (decide (2 ≤ x))) ∧ w.grownBy w' (some q) := by
  have d1 : bits .and .u32 (x : Int) 1 = ((x &&& 1 : Nat) : Int) := and_u32 (a := x) (b := 1) (by omega) (by decide)
  have d2 : bits .and .u32 (x : Int) 2 = ((x &&& 2 : Nat) : Int) := and_u32 (a := x) (b := 2) (by omega) (by decide)
  have hal := Lib.hid (mholds_ok n v (decide (x % 2 = 1)) hn hv)
  rw [hno] at hal
  have b4 : (((x &&& 1 : Nat) : Int) == 1) = decide (x % 2 = 1) := by
    rcases (by omega : x = 0 ∨ x = 1 ∨ x = 2 ∨ x = 3) with rfl | rfl | rfl | rfl <;> rfl
  have b5 : (((x &&& 2 : Nat) : Int) == 2) = decide (2 ≤ x) := by
    rcases (by omega : x = 0 ∨ x = 1 ∨ x = 2 ∨ x = 3) with rfl | rfl | rfl | rfl <;> rfl
  rw [← b4] at hal
  have haf := Lib.hid (mafter_ok n v (decide (x % 2 = 1)) (decide (2 ≤ x)) hn hv)
  have hme := Lib.hid (mmet_ok n v hn hv)
  have haft := afterN_lt (v := v) hn (decide (x % 2 = 1)) (decide (2 ≤ x))
  generalize afterN n v (decide (x % 2 = 1)) (decide (2 ≤ x)) = M at *
  rw [← b4, ← b5] at haf
  generalize metN n v = m at *
  clear b4 b5
  generalize x &&& 1 = X1 at *
  generalize x &&& 2 = X2 at *
  clear hn hv hx hno
  have hg0 := Lib.hid (World.grownBy_alloc w (.cells #[.int .u8 11, .int .u32 hh, .int .u32 v, .int .u32 x, .int .i64 t] 39) none)
  have hB := World.alloc_heap_new w (.cells #[.int .u8 11, .int .u32 hh, .int .u32 v, .int .u32 x, .int .i64 t] 39)
  have hN : (w.alloc (.cells #[.int .u8 11, .int .u32 hh, .int .u32 v, .int .u32 x, .int .i64 t] 39)).heap.size = w.heap.size + 1 := World.size_alloc _ _
  have hF := Lib.hid (h.kept hg0.out (by simp))
  have hne : q ≠ w.heap.size := by have := h.lt; omega
  have c0 := cell_of (i := 0) (v := .int .u32 n) hF.out rfl
  have z0 := frozen_of (i := 0) hF.out
  have b0 := cell_of (i := 0) (v := .int .u8 11) hB rfl
  have b2 := cell_of (i := 2) (v := .int .u32 v) hB rfl
  have b3 := cell_of (i := 3) (v := .int .u32 x) hB rfl
  unfold askV
  go_enter Tryz.func127, Tryz.ntmps127
  go_wp2_with fail
  generalize w.alloc (.cells #[.int .u8 11, .int .u32 hh, .int .u32 v, .int .u32 x, .int .i64 t] 39) = W0 at *
  generalize w.heap.size = Z at *
  replace hB := Lib.hid hB
  replace hne := Lib.hid hne
  clear h hN
  go_quiet (fail)
  have hF1 : FlgB (W0.drewN nq) q n := hF.out
  have hB1 : (W0.drewN nq).heap[Z]? = some (.cells #[.int .u8 11, .int .u32 hh, .int .u32 v, .int .u32 x, .int .i64 t] 39) := hB.out
  have hG1 : w.grownBy (W0.drewN nq) none := grown_drewN hg0.out nq
  generalize W0.drewN nq = W at *
  clear c0 z0 b0 b2 b3 hF hB hg0
  have c0 := cell_of (i := 0) (v := .int .u32 n) hF1 rfl
  have b2 := cell_of (i := 2) (v := .int .u32 v) hB1 rfl
  have b3 := cell_of (i := 3) (v := .int .u32 x) hB1 rfl
  replace hF1 := Lib.hid hF1
  replace hB1 := Lib.hid hB1
  replace hG1 := Lib.hid hG1
  go_wp2_with fail
  go_region_held3 (fun w' => w'.cell? ⟨q, 0, none⟩ = some (.int .u32 n) ∧ w'.cell? ⟨Z, 2, none⟩ = some (.int .u32 v)) (first | exact ⟨grown_cell hg7 c0, grown_cell hg7 b2⟩ | exact ⟨c0, b2⟩) (first
    | (go_at_call 128; refine (hal.out _).mono ?_; rintro e w7 ⟨rfl, hg7⟩; have hg7' := Lib.hid (grown_undrew hg7)))
  have hF2 := Lib.hid (hF1.out.kept hg7'.out (by simp))
  have hB2 := Lib.hid (((hg7'.out).block Z ((Array.getElem?_eq_some_iff.1 hB1.out).1) (by simp)).trans hB1.out)
  have hG2 := Lib.hid (grown_trans hG1.out hg7'.out)
  clear hg7 hg7' c0 b2 b3 hF1 hB1 hG1
  have c0 := cell_of (i := 0) (v := .int .u32 n) hF2.out rfl
  have b2 := cell_of (i := 2) (v := .int .u32 v) hB2.out rfl
  go_wp2_with fail
  go_region_held3 (fun w' => w'.cell? ⟨q, 0, none⟩ = some (.int .u32 n) ∧ w'.cell? ⟨Z, 2, none⟩ = some (.int .u32 v)) (exact ⟨c0, b2⟩) (first
    | (go_at_call 129; refine (hme.out _).mono ?_; rintro e w8 ⟨rfl, rfl⟩))
  have hF3 : Hid (FlgB w7.drew q n) := hF2.out
  have hB3 : Hid (w7.drew.heap[Z]? = some (.cells #[.int .u8 11, .int .u32 hh, .int .u32 v, .int .u32 x, .int .i64 t] 39)) := hB2.out
  have hG3 : Hid (w.grownBy w7.drew none) := grown_drewN hG2.out 1
  generalize w7.drew = W9 at *
  clear hF2 hB2 hG2 c0 b2 hal hme
  have c0 := cell_of (i := 0) (v := .int .u32 n) hF3.out rfl
  have z0 := frozen_of (i := 0) hF3.out
  have b2 := cell_of (i := 2) (v := .int .u32 v) hB3.out rfl
  have b3 := cell_of (i := 3) (v := .int .u32 x) hB3.out rfl
  go_wp2_with fail
  first | go_region_with (go_at_call 130; refine (haf.out _).mono ?_; rintro e wa ⟨rfl, hga⟩; have hF4 := Lib.hid (hF3.out.kept (grown_undrew hga) (by simp)); have hG4 := Lib.hid (grown_trans hG3.out (grown_undrew hga)); have c0' := cell_of (i := 0) (v := .int .u32 n) hF4.out rfl; have z0' := frozen_of (i := 0) hF4.out; replace hga := Lib.hid hga) | fail
  all_goals go_wp2_with fail
  all_goals go_ret2
  all_goals exact ⟨rfl, (flags_fin hF4.out hG4.out M).1, (flags_fin hF4.out hG4.out M).2⟩
end Go.Proofs.YtneamjaglgnmkaaGreatDoor
