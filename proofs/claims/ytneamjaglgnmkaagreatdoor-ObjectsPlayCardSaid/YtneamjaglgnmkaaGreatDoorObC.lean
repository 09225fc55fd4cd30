/- Package objects: semaphores and mutexes. -/
import Derived.Test.YtneamjaglgnmkaaGreatDoorObT
namespace Go.Proofs.YtneamjaglgnmkaaGreatDoor
open Go.RowKit Go.Shelf Tk
set_option linter.unusedVariables false
set_option linter.unusedSimpArgs false
/-- A semaphore's cells. -/
def CntB (w : World) (q : Nat) (n m : Int) : Prop := w.heap[q]? = some (.cells #[.int .u32 n, .int .u32 m] 68 (0, 0))
theorem CntB.lt {w : World} {q : Nat} {n m : Int} (h : CntB w q n m) : q < w.heap.size := (Array.getElem?_eq_some_iff.1 h).1
theorem CntB.kept {w w' : World} {q : Nat} {n m : Int} {r : Option Nat} (h : CntB w q n m) (hg : w.grownBy w' r) (hr : r ≠ some q) : CntB w' q n m := (hg.block q h.lt (fun e => hr e.symm)).trans h
theorem CntB.set {w : World} {q : Nat} {n m : Int} (h : CntB w q n m) (x : Int) : CntB (w.setCell ⟨q, 0, none⟩ (.int .u32 x)) q x m := by
  obtain ⟨hlt, hk'⟩ := Array.getElem?_eq_some_iff.1 h
  show (w.heap.modify q _)[q]? = _
  rw [Array.getElem?_eq_getElem (by rw [Array.size_modify]; exact hlt), Array.getElem_modify_self, hk']
  simp
/-- A mutex' cell. -/
def LokB (w : World) (q : Nat) (o : Int) : Prop := w.heap[q]? = some (.cells #[.int .u32 o] 71 (0, 0))
theorem LokB.lt {w : World} {q : Nat} {o : Int} (h : LokB w q o) : q < w.heap.size := (Array.getElem?_eq_some_iff.1 h).1
theorem LokB.kept {w w' : World} {q : Nat} {o : Int} {r : Option Nat} (h : LokB w q o) (hg : w.grownBy w' r) (hr : r ≠ some q) : LokB w' q o := (hg.block q h.lt (fun e => hr e.symm)).trans h
theorem LokB.set {w : World} {q : Nat} {o : Int} (h : LokB w q o) (x : Int) : LokB (w.setCell ⟨q, 0, none⟩ (.int .u32 x)) q x := by
  obtain ⟨hlt, hk'⟩ := Array.getElem?_eq_some_iff.1 h
  show (w.heap.modify q _)[q]? = _
  rw [Array.getElem?_eq_getElem (by rw [Array.size_modify]; exact hlt), Array.getElem_modify_self, hk']
  simp
theorem heap3_1 (w : World) (A B C : Obj) : (((w.alloc A).alloc B).alloc C).heap[w.heap.size + 1]? = some B := by
  have h := (World.grownBy_alloc ((w.alloc A).alloc B) C none).block (w.heap.size + 1) (by simp) (by simp)
  rw [h]
  have := World.alloc_heap_new (w.alloc A) B
  simpa using this
theorem heap3_2 (w : World) (A B C : Obj) : (((w.alloc A).alloc B).alloc C).heap[w.heap.size + 1 + 1]? = some C := by
  have := World.alloc_heap_new ((w.alloc A).alloc B) C
  simpa using this
set_option maxRecDepth 100000 in
set_option maxHeartbeats 2000000 in
theorem new_count (a b : Int) (h1 : a ≤ b) (h2 : 1 ≤ b) (h3 : b ≤ 1073741824) (w : World) :
    Calls Tryz.prog 5 #[.agg #[.int .u8 1, .int .u32 a, .int .u32 b]] w fun e w' => ∃ p q, e = .returned (.tuple #[.pointer (some ⟨p, 0, none⟩), .int .i64 0]) ∧ Hd w' p 1 a b 64 (.pointer (some ⟨q, 0, none⟩)) ∧ CntB w' q a b ∧ w.heap.size ≤ p ∧ w.heap.size ≤ q ∧ p ≠ q ∧ w.grownBy w' none := by
  go_enter Tryz.func5, Tryz.ntmps5
  go_wp2_with fail
  go_ret2
  exact ⟨w.heap.size + 1, w.heap.size + 1 + 1, rfl, heap3_1 _ _ _ _, heap3_2 _ _ _ _, by omega, by omega, by omega, grown_alloc (grown_alloc (World.grownBy_alloc _ _ _) _) _⟩
set_option maxRecDepth 100000 in
set_option maxHeartbeats 2000000 in
theorem new_lock (w : World) :
    Calls Tryz.prog 5 #[.agg #[.int .u8 2, .int .u32 0, .int .u32 0]] w fun e w' => ∃ p q, e = .returned (.tuple #[.pointer (some ⟨p, 0, none⟩), .int .i64 0]) ∧ Hd w' p 2 0 0 69 (.pointer (some ⟨q, 0, none⟩)) ∧ LokB w' q 0 ∧ w.heap.size ≤ p ∧ w.heap.size ≤ q ∧ p ≠ q ∧ w.grownBy w' none := by
  go_enter Tryz.func5, Tryz.ntmps5
  go_wp2_with fail
  go_ret2
  exact ⟨w.heap.size + 1, w.heap.size + 1 + 1, rfl, heap3_1 _ _ _ _, heap3_2 _ _ _ _, by omega, by omega, by omega, grown_alloc (grown_alloc (World.grownBy_alloc _ _ _) _) _⟩
set_option maxRecDepth 100000 in
set_option maxHeartbeats 2000000 in
theorem new_count_no (a b : Int) (h : b < a ∨ a ≤ b ∧ b < 1 ∨ a ≤ b ∧ 1 ≤ b ∧ 1073741824 < b) (w : World) :
    Calls Tryz.prog 5 #[.agg #[.int .u8 1, .int .u32 a, .int .u32 b]] w fun e w' => e = .returned (.tuple #[.pointer none, .int .i64 1]) ∧ w.grownBy w' none := by
  rcases h with h | ⟨h1, h2⟩ | ⟨h1, h2, h3⟩
  all_goals
    go_enter Tryz.func5, Tryz.ntmps5
    go_wp2_with fail
    go_ret2
    exact ⟨rfl, grown_alloc (World.grownBy_alloc _ _ _) _⟩
/-! ### A semaphore -/
set_option maxRecDepth 100000 in
set_option maxHeartbeats 2000000 in
theorem CntB.take {w : World} {q : Nat} {n m : Int} (h : CntB w q n m) (hn : 1 ≤ n ∧ n < 4294967296) (who hh v x t : Int) :
    Calls Tryz.prog 116 #[.pointer (some ⟨q, 0, none⟩), .int .u32 who, askV 3 hh v x t] w fun e w' => e = .returned (.tuple #[.int .u32 0, .int .i64 0]) ∧ CntB w' q (n - 1) m ∧ w.grownBy w' (some q) := by
  have c0 := cell_of (i := 0) (v := .int .u32 n) h rfl
  have c1 := cell_of (i := 1) (v := .int .u32 m) h rfl
  have z0 := frozen_of (i := 0) h
  have hw : IntKind.u32.wrap (n - 1) = n - 1 := by rw [IntKind.wrap_u32]; omega
  have e0 : (n == 0) = false := by simp; omega
  have hq := h.lt
  replace h := Lib.hid h
  clear hn
  unfold askV
  go_enter Tryz.func116, Tryz.ntmps116
  go_wp2_with fail
  go_ret2
  exact ⟨rfl, (h.out.set (n - 1)).kept (World.grownBy_alloc _ _ none) (by simp), grown_alloc (grownBy_setCell _ _ _ _) _⟩
set_option maxRecDepth 100000 in
set_option maxHeartbeats 2000000 in
theorem CntB.take_no {w : World} {q : Nat} {n m : Int} (h : CntB w q n m) (hn : n = 0) (who hh v x t : Int) :
    Calls Tryz.prog 116 #[.pointer (some ⟨q, 0, none⟩), .int .u32 who, askV 3 hh v x t] w fun e w' => e = .returned (.tuple #[.int .u32 0, .int .i64 7]) ∧ w.grownBy w' none := by
  have c0 := cell_of (i := 0) (v := .int .u32 n) h rfl
  have c1 := cell_of (i := 1) (v := .int .u32 m) h rfl
  have z0 := frozen_of (i := 0) h
  have e0 : (n == 0) = true := by simpa using hn
  clear hn
  have hq := h.lt
  replace h := Lib.hid h
  unfold askV
  go_enter Tryz.func116, Tryz.ntmps116
  go_wp2_with fail
  go_ret2
  exact ⟨rfl, by first | exact World.grownBy_alloc _ _ _ | exact grown_drewN (World.grownBy_alloc _ _ _) _⟩
set_option maxRecDepth 100000 in
set_option maxHeartbeats 2000000 in
theorem CntB.give_no {w : World} {q : Nat} {n m : Int} (h : CntB w q n m) (hn : m ≤ n) (who hh v x t : Int) :
    Calls Tryz.prog 116 #[.pointer (some ⟨q, 0, none⟩), .int .u32 who, askV 4 hh v x t] w fun e w' => e = .returned (.tuple #[.int .u32 0, .int .i64 10]) ∧ w.grownBy w' none := by
  have c0 := cell_of (i := 0) (v := .int .u32 n) h rfl
  have c1 := cell_of (i := 1) (v := .int .u32 m) h rfl
  have z0 := frozen_of (i := 0) h
  have hq := h.lt
  replace h := Lib.hid h
  unfold askV
  go_enter Tryz.func116, Tryz.ntmps116
  go_wp2_with fail
  go_quiet (fail)
  go_wp2_with fail
  go_ret2
  exact ⟨rfl, by first | exact World.grownBy_alloc _ _ _ | exact grown_drewN (World.grownBy_alloc _ _ _) _⟩
set_option maxRecDepth 100000 in
set_option maxHeartbeats 2000000 in
theorem CntB.give {w : World} {q : Nat} {n m : Int} (h : CntB w q n m) (hn : n < m ∧ 0 ≤ n ∧ m < 4294967296) (who hh v x t : Int) :
    Calls Tryz.prog 116 #[.pointer (some ⟨q, 0, none⟩), .int .u32 who, askV 4 hh v x t] w fun e w' => e = .returned (.tuple #[.int .u32 0, .int .i64 0]) ∧ CntB w' q (n + 1) m ∧ w.grownBy w' (some q) := by
  have c0 := cell_of (i := 0) (v := .int .u32 n) h rfl
  have c1 := cell_of (i := 1) (v := .int .u32 m) h rfl
  have z0 := frozen_of (i := 0) h
  have hw : IntKind.u32.wrap (n + 1) = n + 1 := by rw [IntKind.wrap_u32]; omega
  have hn1 := hn.1
  clear hn
  have hq := h.lt
  replace h := Lib.hid h
  unfold askV
  go_enter Tryz.func116, Tryz.ntmps116
  go_wp2_with fail
  go_quiet (fail)
  go_wp2_with fail
  go_ret2
  exact ⟨rfl, (h.out.kept (grown_drewN (World.grownBy_alloc _ _ none) _) (by simp)).set (n + 1), grown_trans (grown_drewN (World.grownBy_alloc _ _ _) _) (grownBy_setCell _ _ _ _)⟩
/-! ### A mutex -/
set_option maxRecDepth 100000 in
set_option maxHeartbeats 2000000 in
theorem LokB.lock_own {w : World} {q : Nat} {who : Int} (h : LokB w q who) (hh v x t : Int) :
    Calls Tryz.prog 118 #[.pointer (some ⟨q, 0, none⟩), .int .u32 who, askV 5 hh v x t] w fun e w' => e = .returned (.tuple #[.int .u32 0, .int .i64 13]) ∧ w.grownBy w' none := by
  have c0 := cell_of (i := 0) (v := .int .u32 who) h rfl
  have z0 := frozen_of (i := 0) h
  have hq := h.lt
  replace h := Lib.hid h
  unfold askV
  go_enter Tryz.func118, Tryz.ntmps118
  go_wp2_with fail
  go_ret2
  exact ⟨rfl, World.grownBy_alloc _ _ _⟩
set_option maxRecDepth 100000 in
set_option maxHeartbeats 2000000 in
theorem LokB.lock_busy {w : World} {q : Nat} {o who : Int} (h : LokB w q o) (h1 : o ≠ who) (h2 : o ≠ 0) (hh v x t : Int) :
    Calls Tryz.prog 118 #[.pointer (some ⟨q, 0, none⟩), .int .u32 who, askV 5 hh v x t] w fun e w' => e = .returned (.tuple #[.int .u32 0, .int .i64 7]) ∧ w.grownBy w' none := by
  have c0 := cell_of (i := 0) (v := .int .u32 o) h rfl
  have z0 := frozen_of (i := 0) h
  have e1 : (o == who) = false := by simpa using h1
  have e2 : (o == 0) = false := by simpa using h2
  clear h1 h2
  have hq := h.lt
  replace h := Lib.hid h
  unfold askV
  go_enter Tryz.func118, Tryz.ntmps118
  go_wp2_with fail
  go_ret2
  exact ⟨rfl, World.grownBy_alloc _ _ _⟩
set_option maxRecDepth 100000 in
set_option maxHeartbeats 2000000 in
theorem LokB.lock {w : World} {q : Nat} {who : Int} (h : LokB w q 0) (h1 : who ≠ 0) (hh v x t : Int) :
    Calls Tryz.prog 118 #[.pointer (some ⟨q, 0, none⟩), .int .u32 who, askV 5 hh v x t] w fun e w' => e = .returned (.tuple #[.int .u32 0, .int .i64 0]) ∧ LokB w' q who ∧ w.grownBy w' (some q) := by
  have c0 := cell_of (i := 0) (v := .int .u32 0) h rfl
  have z0 := frozen_of (i := 0) h
  have e1 : ((0 : Int) == who) = false := by simpa using Ne.symm h1
  clear h1
  have hq := h.lt
  replace h := Lib.hid h
  unfold askV
  go_enter Tryz.func118, Tryz.ntmps118
  go_wp2_with fail
  go_ret2
  exact ⟨rfl, (h.out.set _).kept (World.grownBy_alloc _ _ none) (by simp), grown_alloc (grownBy_setCell _ _ _ _) _⟩
set_option maxRecDepth 100000 in
set_option maxHeartbeats 2000000 in
theorem LokB.unlock {w : World} {q : Nat} {who : Int} (h : LokB w q who) (hh v x t : Int) :
    Calls Tryz.prog 118 #[.pointer (some ⟨q, 0, none⟩), .int .u32 who, askV 6 hh v x t] w fun e w' => e = .returned (.tuple #[.int .u32 0, .int .i64 0]) ∧ LokB w' q 0 ∧ w.grownBy w' (some q) := by
  have c0 := cell_of (i := 0) (v := .int .u32 who) h rfl
  have z0 := frozen_of (i := 0) h
  have hq := h.lt
  replace h := Lib.hid h
  unfold askV
  go_enter Tryz.func118, Tryz.ntmps118
  go_wp2_with fail
  go_ret2
  exact ⟨rfl, (h.out.set _).kept (World.grownBy_alloc _ _ none) (by simp), grown_alloc (grownBy_setCell _ _ _ _) _⟩
set_option maxRecDepth 100000 in
set_option maxHeartbeats 2000000 in
theorem LokB.unlock_no {w : World} {q : Nat} {o who : Int} (h : LokB w q o) (h1 : o ≠ who) (hh v x t : Int) :
    Calls Tryz.prog 118 #[.pointer (some ⟨q, 0, none⟩), .int .u32 who, askV 6 hh v x t] w fun e w' => e = .returned (.tuple #[.int .u32 0, .int .i64 13]) ∧ w.grownBy w' none := by
  have c0 := cell_of (i := 0) (v := .int .u32 o) h rfl
  have z0 := frozen_of (i := 0) h
  have e1 : (o == who) = false := by simpa using h1
  clear h1
  have hq := h.lt
  replace h := Lib.hid h
  unfold askV
  go_enter Tryz.func118, Tryz.ntmps118
  go_wp2_with fail
  go_ret2
  exact ⟨rfl, World.grownBy_alloc _ _ _⟩
set_option maxRecDepth 100000 in
set_option maxHeartbeats 2000000 in
theorem LokB.leave {w : World} {q : Nat} {who : Int} (h : LokB w q who) :
    Calls Tryz.prog 117 #[.pointer (some ⟨q, 0, none⟩), .int .u32 who] w fun e w' => e = .returned (.bool true) ∧ LokB w' q 0 ∧ w.grownBy w' (some q) := by
  have c0 := cell_of (i := 0) (v := .int .u32 who) h rfl
  have z0 := frozen_of (i := 0) h
  replace h := Lib.hid h
  go_enter Tryz.func117, Tryz.ntmps117
  go_wp2_with fail
  go_ret
  exact ⟨rfl, h.out.set _, grownBy_setCell _ _ _ _⟩
set_option maxRecDepth 100000 in
set_option maxHeartbeats 2000000 in
theorem LokB.leave_no {w : World} {q : Nat} {o who : Int} (h : LokB w q o) (h1 : o ≠ who) :
    Calls Tryz.prog 117 #[.pointer (some ⟨q, 0, none⟩), .int .u32 who] w fun e w' => e = .returned (.bool false) ∧ w = w' := by
  have c0 := cell_of (i := 0) (v := .int .u32 o) h rfl
  have z0 := frozen_of (i := 0) h
  have e1 : (o == who) = false := by simpa using h1
  clear h1
  replace h := Lib.hid h
  go_enter Tryz.func117, Tryz.ntmps117
  go_wp2_with fail
  go_ret
  exact ⟨rfl, rfl⟩
/-! ### As things -/
theorem nilAhead_count (q : Nat) (w : World) : (nilAhead 306 64 (.pointer (some ⟨q, 0, none⟩)) "timekeeper/objects.try").run Tryz.prog w = .ok (some false) w := by kernel_rfl
theorem method_count (q : Nat) (w : World) : (method 306 64 (.pointer (some ⟨q, 0, none⟩)) "timekeeper/objects.try").run Tryz.prog w = .ok (116, .pointer (some ⟨q, 0, none⟩)) w := by kernel_rfl
theorem nilAhead_lock (q : Nat) (w : World) : (nilAhead 306 69 (.pointer (some ⟨q, 0, none⟩)) "timekeeper/objects.try").run Tryz.prog w = .ok (some false) w := by kernel_rfl
theorem method_lock (q : Nat) (w : World) : (method 306 69 (.pointer (some ⟨q, 0, none⟩)) "timekeeper/objects.try").run Tryz.prog w = .ok (118, .pointer (some ⟨q, 0, none⟩)) w := by kernel_rfl
theorem enter_count (args : Array Value) (w : World) : (callFunc 116 args).run Tryz.prog w = .ok (.enter 116 args) w := by kernel_rfl
theorem enter_lock (args : Array Value) (w : World) : (callFunc 118 args).run Tryz.prog w = .ok (.enter 118 args) w := by kernel_rfl
theorem method_lockL (q : Nat) (w : World) : (method 306 69 (.pointer (some ⟨q, 0, none⟩)) "timekeeper/objects.leave").run Tryz.prog w = .ok (117, .pointer (some ⟨q, 0, none⟩)) w := by kernel_rfl
/-- A semaphore. -/
structure Cnt (w : World) (p q : Nat) (a n m : Int) : Prop where
  hd : Hd w p 1 a m 64 (.pointer (some ⟨q, 0, none⟩))
  cb : CntB w q n m
  ne : p ≠ q
theorem Cnt.keep {w w' : World} {p q : Nat} {a n m : Int} (h : Cnt w p q a n m) (hg : w.grownBy w' none) : Cnt w' p q a n m := ⟨h.hd.keep hg, h.cb.kept hg (by simp), h.ne⟩
/-- A mutex. -/
structure Lok (w : World) (p q : Nat) (o : Int) : Prop where
  hd : Hd w p 2 0 0 69 (.pointer (some ⟨q, 0, none⟩))
  cb : LokB w q o
  ne : p ≠ q
theorem Lok.keep {w w' : World} {p q : Nat} {o : Int} (h : Lok w p q o) (hg : w.grownBy w' none) : Lok w' p q o := ⟨h.hd.keep hg, h.cb.kept hg (by simp), h.ne⟩
theorem Cnt.take {w : World} {p q : Nat} {a n m : Int} (h : Cnt w p q a n m) (hn : 1 ≤ n ∧ n < 4294967296) (who : Int) (hw : who ≠ 0) (hh v x t : Int) :
    Calls Tryz.prog 7 #[.pointer (some ⟨p, 0, none⟩), .int .u32 who, askV 3 hh v x t] w fun e w' => e = .returned (.tuple #[.int .u32 0, .int .i64 0]) ∧ Cnt w' p q a (n - 1) m ∧ w.grownBy w' (some q) := by
  refine (h.hd.try_of (R := fun w1 u r w' => u = .int .u32 0 ∧ r = .int .i64 0 ∧ CntB w' q (n - 1) m ∧ w1.grownBy w' (some q)) (by decide) who 3 hh v x t hw (by decide) (fun e => absurd e (by decide)) (nilAhead_count q) (method_count q) enter_count (fun w1 hg => ((h.cb.kept hg (by simp)).take hn who hh v x t).mono ?_)).mono ?_
  · rintro e w' ⟨rfl, h1, h2⟩; exact ⟨_, _, rfl, rfl, rfl, h1, h2⟩
  · rintro e w' ⟨w1, u, r, hg, rfl, rfl, rfl, h1, h2⟩; exact ⟨rfl, ⟨(h.hd.keep hg).kept h2 (by simp; exact fun e => h.ne e.symm), h1, h.ne⟩, grown_trans (grown_weaken _ hg) h2⟩
theorem Cnt.take_no {w : World} {p q : Nat} {a n m : Int} (h : Cnt w p q a n m) (hn : n = 0) (who : Int) (hw : who ≠ 0) (hh v x t : Int) :
    Calls Tryz.prog 7 #[.pointer (some ⟨p, 0, none⟩), .int .u32 who, askV 3 hh v x t] w fun e w' => e = .returned (.tuple #[.int .u32 0, .int .i64 7]) ∧ Cnt w' p q a n m ∧ w.grownBy w' none := by
  refine (h.hd.try_of (R := fun w1 u r w' => u = .int .u32 0 ∧ r = .int .i64 7 ∧ w1.grownBy w' none) (by decide) who 3 hh v x t hw (by decide) (fun e => absurd e (by decide)) (nilAhead_count q) (method_count q) enter_count (fun w1 hg => ((h.cb.kept hg (by simp)).take_no hn who hh v x t).mono ?_)).mono ?_
  · rintro e w' ⟨rfl, h2⟩; exact ⟨_, _, rfl, rfl, rfl, h2⟩
  · rintro e w' ⟨w1, u, r, hg, rfl, rfl, rfl, h2⟩; exact ⟨rfl, h.keep (grown_trans hg h2), grown_trans hg h2⟩
theorem Cnt.give {w : World} {p q : Nat} {a n m : Int} (h : Cnt w p q a n m) (hn : n < m ∧ 0 ≤ n ∧ m < 4294967296) (who : Int) (hw : who ≠ 0) (hh v x t : Int) :
    Calls Tryz.prog 7 #[.pointer (some ⟨p, 0, none⟩), .int .u32 who, askV 4 hh v x t] w fun e w' => e = .returned (.tuple #[.int .u32 0, .int .i64 0]) ∧ Cnt w' p q a (n + 1) m ∧ w.grownBy w' (some q) := by
  refine (h.hd.try_of (R := fun w1 u r w' => u = .int .u32 0 ∧ r = .int .i64 0 ∧ CntB w' q (n + 1) m ∧ w1.grownBy w' (some q)) (by decide) who 4 hh v x t hw (by decide) (fun e => absurd e (by decide)) (nilAhead_count q) (method_count q) enter_count (fun w1 hg => ((h.cb.kept hg (by simp)).give hn who hh v x t).mono ?_)).mono ?_
  · rintro e w' ⟨rfl, h1, h2⟩; exact ⟨_, _, rfl, rfl, rfl, h1, h2⟩
  · rintro e w' ⟨w1, u, r, hg, rfl, rfl, rfl, h1, h2⟩; exact ⟨rfl, ⟨(h.hd.keep hg).kept h2 (by simp; exact fun e => h.ne e.symm), h1, h.ne⟩, grown_trans (grown_weaken _ hg) h2⟩
theorem Cnt.give_no {w : World} {p q : Nat} {a n m : Int} (h : Cnt w p q a n m) (hn : m ≤ n) (who : Int) (hw : who ≠ 0) (hh v x t : Int) :
    Calls Tryz.prog 7 #[.pointer (some ⟨p, 0, none⟩), .int .u32 who, askV 4 hh v x t] w fun e w' => e = .returned (.tuple #[.int .u32 0, .int .i64 10]) ∧ Cnt w' p q a n m ∧ w.grownBy w' none := by
  refine (h.hd.try_of (R := fun w1 u r w' => u = .int .u32 0 ∧ r = .int .i64 10 ∧ w1.grownBy w' none) (by decide) who 4 hh v x t hw (by decide) (fun e => absurd e (by decide)) (nilAhead_count q) (method_count q) enter_count (fun w1 hg => ((h.cb.kept hg (by simp)).give_no hn who hh v x t).mono ?_)).mono ?_
  · rintro e w' ⟨rfl, h2⟩; exact ⟨_, _, rfl, rfl, rfl, h2⟩
  · rintro e w' ⟨w1, u, r, hg, rfl, rfl, rfl, h2⟩; exact ⟨rfl, h.keep (grown_trans hg h2), grown_trans hg h2⟩
theorem Lok.lock_own {w : World} {p q : Nat} {who : Int} (h : Lok w p q who) (hw : who ≠ 0) (hh v x t : Int) :
    Calls Tryz.prog 7 #[.pointer (some ⟨p, 0, none⟩), .int .u32 who, askV 5 hh v x t] w fun e w' => e = .returned (.tuple #[.int .u32 0, .int .i64 13]) ∧ Lok w' p q who ∧ w.grownBy w' none := by
  refine (h.hd.try_of (R := fun w1 u r w' => u = .int .u32 0 ∧ r = .int .i64 13 ∧ w1.grownBy w' none) (by decide) who 5 hh v x t hw (by decide) (fun e => absurd e (by decide)) (nilAhead_lock q) (method_lock q) enter_lock (fun w1 hg => ((h.cb.kept hg (by simp)).lock_own  hh v x t).mono ?_)).mono ?_
  · rintro e w' ⟨rfl, h2⟩; exact ⟨_, _, rfl, rfl, rfl, h2⟩
  · rintro e w' ⟨w1, u, r, hg, rfl, rfl, rfl, h2⟩; exact ⟨rfl, h.keep (grown_trans hg h2), grown_trans hg h2⟩
theorem Lok.lock_busy {w : World} {p q : Nat} {o who : Int} (h : Lok w p q o) (h1 : o ≠ who) (h2 : o ≠ 0) (hw : who ≠ 0) (hh v x t : Int) :
    Calls Tryz.prog 7 #[.pointer (some ⟨p, 0, none⟩), .int .u32 who, askV 5 hh v x t] w fun e w' => e = .returned (.tuple #[.int .u32 0, .int .i64 7]) ∧ Lok w' p q o ∧ w.grownBy w' none := by
  refine (h.hd.try_of (R := fun w1 u r w' => u = .int .u32 0 ∧ r = .int .i64 7 ∧ w1.grownBy w' none) (by decide) who 5 hh v x t hw (by decide) (fun e => absurd e (by decide)) (nilAhead_lock q) (method_lock q) enter_lock (fun w1 hg => ((h.cb.kept hg (by simp)).lock_busy h1 h2 hh v x t).mono ?_)).mono ?_
  · rintro e w' ⟨rfl, h2⟩; exact ⟨_, _, rfl, rfl, rfl, h2⟩
  · rintro e w' ⟨w1, u, r, hg, rfl, rfl, rfl, h2⟩; exact ⟨rfl, h.keep (grown_trans hg h2), grown_trans hg h2⟩
theorem Lok.lock {w : World} {p q : Nat} {who : Int} (h : Lok w p q 0) (hw : who ≠ 0) (hh v x t : Int) :
    Calls Tryz.prog 7 #[.pointer (some ⟨p, 0, none⟩), .int .u32 who, askV 5 hh v x t] w fun e w' => e = .returned (.tuple #[.int .u32 0, .int .i64 0]) ∧ Lok w' p q who ∧ w.grownBy w' (some q) := by
  refine (h.hd.try_of (R := fun w1 u r w' => u = .int .u32 0 ∧ r = .int .i64 0 ∧ LokB w' q who ∧ w1.grownBy w' (some q)) (by decide) who 5 hh v x t hw (by decide) (fun e => absurd e (by decide)) (nilAhead_lock q) (method_lock q) enter_lock (fun w1 hg => ((h.cb.kept hg (by simp)).lock hw hh v x t).mono ?_)).mono ?_
  · rintro e w' ⟨rfl, h1, h2⟩; exact ⟨_, _, rfl, rfl, rfl, h1, h2⟩
  · rintro e w' ⟨w1, u, r, hg, rfl, rfl, rfl, h1, h2⟩; exact ⟨rfl, ⟨(h.hd.keep hg).kept h2 (by simp; exact fun e => h.ne e.symm), h1, h.ne⟩, grown_trans (grown_weaken _ hg) h2⟩
theorem Lok.unlock {w : World} {p q : Nat} {who : Int} (h : Lok w p q who) (hw : who ≠ 0) (hh v x t : Int) :
    Calls Tryz.prog 7 #[.pointer (some ⟨p, 0, none⟩), .int .u32 who, askV 6 hh v x t] w fun e w' => e = .returned (.tuple #[.int .u32 0, .int .i64 0]) ∧ Lok w' p q 0 ∧ w.grownBy w' (some q) := by
  refine (h.hd.try_of (R := fun w1 u r w' => u = .int .u32 0 ∧ r = .int .i64 0 ∧ LokB w' q 0 ∧ w1.grownBy w' (some q)) (by decide) who 6 hh v x t hw (by decide) (fun e => absurd e (by decide)) (nilAhead_lock q) (method_lock q) enter_lock (fun w1 hg => ((h.cb.kept hg (by simp)).unlock  hh v x t).mono ?_)).mono ?_
  · rintro e w' ⟨rfl, h1, h2⟩; exact ⟨_, _, rfl, rfl, rfl, h1, h2⟩
  · rintro e w' ⟨w1, u, r, hg, rfl, rfl, rfl, h1, h2⟩; exact ⟨rfl, ⟨(h.hd.keep hg).kept h2 (by simp; exact fun e => h.ne e.symm), h1, h.ne⟩, grown_trans (grown_weaken _ hg) h2⟩
theorem Lok.unlock_no {w : World} {p q : Nat} {o who : Int} (h : Lok w p q o) (h1 : o ≠ who) (hw : who ≠ 0) (hh v x t : Int) :
    Calls Tryz.prog 7 #[.pointer (some ⟨p, 0, none⟩), .int .u32 who, askV 6 hh v x t] w fun e w' => e = .returned (.tuple #[.int .u32 0, .int .i64 13]) ∧ Lok w' p q o ∧ w.grownBy w' none := by
  refine (h.hd.try_of (R := fun w1 u r w' => u = .int .u32 0 ∧ r = .int .i64 13 ∧ w1.grownBy w' none) (by decide) who 6 hh v x t hw (by decide) (fun e => absurd e (by decide)) (nilAhead_lock q) (method_lock q) enter_lock (fun w1 hg => ((h.cb.kept hg (by simp)).unlock_no h1 hh v x t).mono ?_)).mono ?_
  · rintro e w' ⟨rfl, h2⟩; exact ⟨_, _, rfl, rfl, rfl, h2⟩
  · rintro e w' ⟨w1, u, r, hg, rfl, rfl, rfl, h2⟩; exact ⟨rfl, h.keep (grown_trans hg h2), grown_trans hg h2⟩
end Go.Proofs.YtneamjaglgnmkaaGreatDoor
