/- Package objects: a queue as a thing. -/
import Derived.Test.YtneamjaglgnmkaaGreatDoorObS
import Derived.Test.YtneamjaglgnmkaaGreatDoorQue2
namespace Go.Proofs.YtneamjaglgnmkaaGreatDoor
open Go.RowKit Go.Shelf Tk
set_option linter.unusedVariables false
set_option linter.unusedSimpArgs false
def RowB (w : World) (q B : Nat) : Prop := w.heap[q]? = some (.cells #[.pointer (some ⟨B, 0, none⟩)] 77 (0, 0))
theorem RowB.lt {w : World} {q B : Nat} (h : RowB w q B) : q < w.heap.size := (Array.getElem?_eq_some_iff.1 h).1
theorem RowB.kept {w w' : World} {q B : Nat} {r : Option Nat} (h : RowB w q B) (hg : w.grownBy w' r) (hr : r ≠ some q) : RowB w' q B := (hg.block q h.lt (fun e => hr e.symm)).trans h
theorem yet_ok (v : Int) (w : World) : Calls Tryz.prog 121 #[.int .u32 v, .int .i64 0] w fun e w' => e = .returned (.tuple #[.int .u32 v, .int .i64 0]) ∧ w = w' := by
  go_enter Tryz.func121, Tryz.ntmps121
  go_wp2
  go_ret2
  exact ⟨rfl, rfl⟩
theorem yet_no (v e : Int) (he : e ≠ 0) (w : World) : Calls Tryz.prog 121 #[.int .u32 v, .int .i64 e] w fun x w' => x = .returned (.tuple #[.int .u32 v, .int .i64 7]) ∧ w = w' := by
  go_enter Tryz.func121, Tryz.ntmps121
  go_wp2
  go_ret2
  exact ⟨rfl, rfl⟩
set_option maxRecDepth 100000 in
set_option maxHeartbeats 4000000 in
theorem RowB.qput {w : World} {q B m : Nat} {ms : List Int} {f : Nat} {c : Nat → Int} (h : RowB w q B) (hq : Que w B m ms f c) (hm : ms.length < m) (who hh v x t : Int) :
    Calls Tryz.prog 120 #[.pointer (some ⟨q, 0, none⟩), .int .u32 who, askV 7 hh v x t] w fun e w' => e = .returned (.tuple #[.int .u32 0, .int .i64 0]) ∧ (∃ f' c', Que w' B m (ms ++ [v]) f' c') ∧ w.grownBy w' (some B) := by
  have c0 := cell_of (i := 0) (v := .pointer (some ⟨B, 0, none⟩)) h rfl
  have hlt := h.lt
  replace h := Lib.hid h
  replace hq := Lib.hid hq
  unfold askV
  go_enter Tryz.func120, Tryz.ntmps120
  go_wp2_with fail
  first | go_region_with (first | (go_at_call 122; refine (put_ok v _ (hq.out.keep (grown_drewN (World.grownBy_alloc _ _ none) 1)) hm).mono ?_; rintro e wr ⟨rfl, hq2, hg⟩; replace hg := Lib.hid hg; replace hq2 := Lib.hid hq2) | (go_at_call 121; refine (yet_ok 0 _).mono ?_; rintro e wy ⟨rfl, rfl⟩)) | fail
  all_goals go_wp2_with fail
  all_goals go_ret2
  all_goals exact ⟨rfl, (let ⟨c', hh⟩ := hq2.out; ⟨_, c', hh⟩), grown_trans (grown_drewN (World.grownBy_alloc _ _ _) 1) hg.out⟩
set_option maxRecDepth 100000 in
set_option maxHeartbeats 4000000 in
theorem RowB.qput_no {w : World} {q B m : Nat} {ms : List Int} {f : Nat} {c : Nat → Int} (h : RowB w q B) (hq : Que w B m ms f c) (hm : ms.length = m) (who hh v x t : Int) :
    Calls Tryz.prog 120 #[.pointer (some ⟨q, 0, none⟩), .int .u32 who, askV 7 hh v x t] w fun e w' => e = .returned (.tuple #[.int .u32 0, .int .i64 7]) ∧ w.grownBy w' none := by
  have c0 := cell_of (i := 0) (v := .pointer (some ⟨B, 0, none⟩)) h rfl
  have hlt := h.lt
  replace h := Lib.hid h
  have hput := Lib.hid (fun W (hg : w.grownBy W none) => put_no (.pointer (some ⟨B, 0, none⟩)) (.int .u32 v) 10 (by decide) W (room_full W (hq.keep hg) hm))
  replace hq := Lib.hid hq
  unfold askV
  go_enter Tryz.func120, Tryz.ntmps120
  go_wp2_with fail
  first | go_region_with (first | (go_at_call 122; refine (hput.out _ (grown_drewN (World.grownBy_alloc _ _ none) 1)).mono ?_; rintro e wr ⟨rfl, hg⟩; replace hg := Lib.hid hg) | (go_at_call 121; refine (yet_no 0 _ (by decide) _).mono ?_; rintro e wy ⟨rfl, rfl⟩)) | fail
  all_goals go_wp2_with fail
  all_goals go_ret2
  all_goals exact ⟨rfl, grown_trans (grown_drewN (World.grownBy_alloc _ _ _) 1) hg.out⟩
set_option maxRecDepth 100000 in
set_option maxHeartbeats 4000000 in
theorem RowB.qpush {w : World} {q B m : Nat} {ms : List Int} {f : Nat} {c : Nat → Int} (h : RowB w q B) (hq : Que w B m ms f c) (hm : ms.length < m) (who hh v x t : Int) :
    Calls Tryz.prog 120 #[.pointer (some ⟨q, 0, none⟩), .int .u32 who, askV 8 hh v x t] w fun e w' => e = .returned (.tuple #[.int .u32 0, .int .i64 0]) ∧ (∃ f' c', Que w' B m (v :: ms) f' c') ∧ w.grownBy w' (some B) := by
  have c0 := cell_of (i := 0) (v := .pointer (some ⟨B, 0, none⟩)) h rfl
  have hlt := h.lt
  replace h := Lib.hid h
  replace hq := Lib.hid hq
  unfold askV
  go_enter Tryz.func120, Tryz.ntmps120
  go_wp2_with fail
  first | go_region_with (first | (go_at_call 123; refine (push_ok v _ (hq.out.keep (grown_drewN (World.grownBy_alloc _ _ none) 1)) hm).mono ?_; rintro e wr ⟨rfl, hq2, hg⟩; replace hg := Lib.hid hg; replace hq2 := Lib.hid hq2) | (go_at_call 121; refine (yet_ok 0 _).mono ?_; rintro e wy ⟨rfl, rfl⟩)) | fail
  all_goals go_wp2_with fail
  all_goals go_ret2
  all_goals exact ⟨rfl, hq2.out, grown_trans (grown_drewN (World.grownBy_alloc _ _ _) 1) hg.out⟩
set_option maxRecDepth 100000 in
set_option maxHeartbeats 4000000 in
theorem RowB.qpush_no {w : World} {q B m : Nat} {ms : List Int} {f : Nat} {c : Nat → Int} (h : RowB w q B) (hq : Que w B m ms f c) (hm : ms.length = m) (who hh v x t : Int) :
    Calls Tryz.prog 120 #[.pointer (some ⟨q, 0, none⟩), .int .u32 who, askV 8 hh v x t] w fun e w' => e = .returned (.tuple #[.int .u32 0, .int .i64 7]) ∧ w.grownBy w' none := by
  have c0 := cell_of (i := 0) (v := .pointer (some ⟨B, 0, none⟩)) h rfl
  have hlt := h.lt
  replace h := Lib.hid h
  have hput := Lib.hid (fun W (hg : w.grownBy W none) => push_no (.pointer (some ⟨B, 0, none⟩)) (.int .u32 v) 10 (by decide) W (room_full W (hq.keep hg) hm))
  replace hq := Lib.hid hq
  unfold askV
  go_enter Tryz.func120, Tryz.ntmps120
  go_wp2_with fail
  first | go_region_with (first | (go_at_call 123; refine (hput.out _ (grown_drewN (World.grownBy_alloc _ _ none) 1)).mono ?_; rintro e wr ⟨rfl, hg⟩; replace hg := Lib.hid hg) | (go_at_call 121; refine (yet_no 0 _ (by decide) _).mono ?_; rintro e wy ⟨rfl, rfl⟩)) | fail
  all_goals go_wp2_with fail
  all_goals go_ret2
  all_goals exact ⟨rfl, grown_trans (grown_drewN (World.grownBy_alloc _ _ _) 1) hg.out⟩
set_option maxRecDepth 100000 in
set_option maxHeartbeats 4000000 in
theorem RowB.qget {w : World} {q B m : Nat} {u : Int} {ms : List Int} {f : Nat} {c : Nat → Int} (h : RowB w q B) (hq : Que w B m (u :: ms) f c) (who hh v x t : Int) :
    Calls Tryz.prog 120 #[.pointer (some ⟨q, 0, none⟩), .int .u32 who, askV 9 hh v x t] w fun e w' => e = .returned (.tuple #[.int .u32 u, .int .i64 0]) ∧ (∃ f' c', Que w' B m ms f' c') ∧ w.grownBy w' (some B) := by
  have c0 := cell_of (i := 0) (v := .pointer (some ⟨B, 0, none⟩)) h rfl
  have hlt := h.lt
  replace h := Lib.hid h
  replace hq := Lib.hid hq
  unfold askV
  go_enter Tryz.func120, Tryz.ntmps120
  go_wp2_with (first | (go_at_call 124; refine (take_ok _ (hq.out.keep (World.grownBy_alloc _ _ none))).mono ?_; rintro e wr ⟨rfl, hq2, hg⟩; replace hg := Lib.hid hg; replace hq2 := Lib.hid hq2) | (go_at_call 121; refine (yet_ok _ _).mono ?_; rintro e wy ⟨rfl, rfl⟩))
  go_ret2
  exact ⟨rfl, (let ⟨f', hh⟩ := hq2.out; ⟨f', _, hh⟩), grown_trans (World.grownBy_alloc _ _ _) hg.out⟩
set_option maxRecDepth 100000 in
set_option maxHeartbeats 4000000 in
theorem RowB.qget_no {w : World} {q B m : Nat} {f : Nat} {c : Nat → Int} (h : RowB w q B) (hq : Que w B m [] f c) (who hh v x t : Int) :
    Calls Tryz.prog 120 #[.pointer (some ⟨q, 0, none⟩), .int .u32 who, askV 9 hh v x t] w fun e w' => e = .returned (.tuple #[.int .u32 0, .int .i64 7]) ∧ w.grownBy w' none := by
  have c0 := cell_of (i := 0) (v := .pointer (some ⟨B, 0, none⟩)) h rfl
  have hlt := h.lt
  replace h := Lib.hid h
  replace hq := Lib.hid hq
  unfold askV
  go_enter Tryz.func120, Tryz.ntmps120
  go_wp2_with (first | (go_at_call 124; refine (take_no _ 11 (by decide) _ (peek_empty _ (hq.out.keep (World.grownBy_alloc _ _ none)))).mono ?_; rintro e wr ⟨rfl, rfl⟩) | (go_at_call 121; refine (yet_no _ _ (by decide) _).mono ?_; rintro e wy ⟨rfl, rfl⟩))
  go_ret2
  exact ⟨rfl, World.grownBy_alloc _ _ _⟩
set_option maxRecDepth 100000 in
set_option maxHeartbeats 4000000 in
theorem RowB.qpeek {w : World} {q B m : Nat} {u : Int} {ms : List Int} {f : Nat} {c : Nat → Int} (h : RowB w q B) (hq : Que w B m (u :: ms) f c) (who hh v x t : Int) :
    Calls Tryz.prog 120 #[.pointer (some ⟨q, 0, none⟩), .int .u32 who, askV 10 hh v x t] w fun e w' => e = .returned (.tuple #[.int .u32 u, .int .i64 0]) ∧ w.grownBy w' none := by
  have c0 := cell_of (i := 0) (v := .pointer (some ⟨B, 0, none⟩)) h rfl
  have hlt := h.lt
  replace h := Lib.hid h
  replace hq := Lib.hid hq
  unfold askV
  go_enter Tryz.func120, Tryz.ntmps120
  go_wp2_with ((go_at_call 125; refine (peek_ok _ (hq.out.keep (World.grownBy_alloc _ _ none))).mono ?_; rintro e wr ⟨rfl, n, rfl⟩))
  go_ret2
  exact ⟨rfl, grown_drewN (World.grownBy_alloc _ _ _) n⟩
set_option maxRecDepth 100000 in
set_option maxHeartbeats 4000000 in
theorem RowB.qpeek_no {w : World} {q B m : Nat} {f : Nat} {c : Nat → Int} (h : RowB w q B) (hq : Que w B m [] f c) (who hh v x t : Int) :
    Calls Tryz.prog 120 #[.pointer (some ⟨q, 0, none⟩), .int .u32 who, askV 10 hh v x t] w fun e w' => e = .returned (.tuple #[.int .u32 0, .int .i64 11]) ∧ w.grownBy w' none := by
  have c0 := cell_of (i := 0) (v := .pointer (some ⟨B, 0, none⟩)) h rfl
  have hlt := h.lt
  replace h := Lib.hid h
  replace hq := Lib.hid hq
  unfold askV
  go_enter Tryz.func120, Tryz.ntmps120
  go_wp2_with ((go_at_call 125; refine (peek_empty _ (hq.out.keep (World.grownBy_alloc _ _ none))).mono ?_; rintro e wr ⟨rfl, rfl⟩))
  go_ret2
  exact ⟨rfl, World.grownBy_alloc _ _ _⟩
theorem nilAhead_row (q : Nat) (w : World) : (nilAhead 306 75 (.pointer (some ⟨q, 0, none⟩)) "timekeeper/objects.try").run Tryz.prog w = .ok (some false) w := by kernel_rfl
theorem method_row (q : Nat) (w : World) : (method 306 75 (.pointer (some ⟨q, 0, none⟩)) "timekeeper/objects.try").run Tryz.prog w = .ok (120, .pointer (some ⟨q, 0, none⟩)) w := by kernel_rfl
theorem enter_row (args : Array Value) (w : World) : (callFunc 120 args).run Tryz.prog w = .ok (.enter 120 args) w := by kernel_rfl
/-- A queue as a thing. -/
structure Rwt (w : World) (p q B m : Nat) (ms : List Int) : Prop where
  hd : Hd w p 3 m 0 75 (.pointer (some ⟨q, 0, none⟩))
  rb : RowB w q B
  qu : ∃ f c, Que w B m ms f c
  pB : p ≠ B
  qB : q ≠ B
theorem Rwt.keep {w w' : World} {p q B m : Nat} {ms : List Int} (h : Rwt w p q B m ms) (hg : w.grownBy w' none) : Rwt w' p q B m ms := ⟨h.hd.keep hg, h.rb.kept hg (by simp), let ⟨f, c, hq⟩ := h.qu; ⟨f, c, hq.keep hg⟩, h.pB, h.qB⟩
theorem Rwt.put {w : World} {p q B m : Nat} {ms : List Int} (h : Rwt w p q B m ms) (hm : ms.length < m) (who : Int) (hw : who ≠ 0) (hh v x t : Int) :
    Calls Tryz.prog 7 #[.pointer (some ⟨p, 0, none⟩), .int .u32 who, askV 7 hh v x t] w fun e w' => e = .returned (.tuple #[.int .u32 0, .int .i64 0]) ∧ Rwt w' p q B m (ms ++ [v]) ∧ w.grownBy w' (some B) := by
  obtain ⟨f, c, hq⟩ := h.qu
  refine (h.hd.try_of (R := fun w1 u0 r0 w' => u0 = .int .u32 0 ∧ r0 = .int .i64 0 ∧ (∃ f' c', Que w' B m (ms ++ [v]) f' c') ∧ w1.grownBy w' (some B)) (by decide) who 7 hh v x t hw (by decide) (fun e => absurd e (by decide)) (nilAhead_row q) (method_row q) enter_row (fun w1 hg => ((h.rb.kept hg (by simp)).qput (hq.keep hg) hm who hh v x t).mono ?_)).mono ?_
  · rintro e w' ⟨rfl, h1, h2⟩; exact ⟨_, _, rfl, rfl, rfl, h1, h2⟩
  · rintro e w' ⟨w1, u0, r0, hg, rfl, rfl, rfl, h1, h2⟩
    exact ⟨rfl, ⟨(h.hd.keep hg).kept h2 (by simp; exact fun e => h.pB e.symm), (h.rb.kept hg (by simp)).kept h2 (by simp; exact fun e => h.qB e.symm), h1, h.pB, h.qB⟩, grown_trans (grown_weaken _ hg) h2⟩
theorem Rwt.put_no {w : World} {p q B m : Nat} {ms : List Int} (h : Rwt w p q B m ms) (hm : ms.length = m) (who : Int) (hw : who ≠ 0) (hh v x t : Int) :
    Calls Tryz.prog 7 #[.pointer (some ⟨p, 0, none⟩), .int .u32 who, askV 7 hh v x t] w fun e w' => e = .returned (.tuple #[.int .u32 0, .int .i64 7]) ∧ Rwt w' p q B m ms ∧ w.grownBy w' none := by
  obtain ⟨f, c, hq⟩ := h.qu
  refine (h.hd.try_of (R := fun w1 u0 r0 w' => u0 = .int .u32 0 ∧ r0 = .int .i64 7 ∧ w1.grownBy w' none) (by decide) who 7 hh v x t hw (by decide) (fun e => absurd e (by decide)) (nilAhead_row q) (method_row q) enter_row (fun w1 hg => ((h.rb.kept hg (by simp)).qput_no (hq.keep hg) hm who hh v x t).mono ?_)).mono ?_
  · rintro e w' ⟨rfl, h2⟩; exact ⟨_, _, rfl, rfl, rfl, h2⟩
  · rintro e w' ⟨w1, u0, r0, hg, rfl, rfl, rfl, h2⟩; exact ⟨rfl, h.keep (grown_trans hg h2), grown_trans hg h2⟩
theorem Rwt.push {w : World} {p q B m : Nat} {ms : List Int} (h : Rwt w p q B m ms) (hm : ms.length < m) (who : Int) (hw : who ≠ 0) (hh v x t : Int) :
    Calls Tryz.prog 7 #[.pointer (some ⟨p, 0, none⟩), .int .u32 who, askV 8 hh v x t] w fun e w' => e = .returned (.tuple #[.int .u32 0, .int .i64 0]) ∧ Rwt w' p q B m (v :: ms) ∧ w.grownBy w' (some B) := by
  obtain ⟨f, c, hq⟩ := h.qu
  refine (h.hd.try_of (R := fun w1 u0 r0 w' => u0 = .int .u32 0 ∧ r0 = .int .i64 0 ∧ (∃ f' c', Que w' B m (v :: ms) f' c') ∧ w1.grownBy w' (some B)) (by decide) who 8 hh v x t hw (by decide) (fun e => absurd e (by decide)) (nilAhead_row q) (method_row q) enter_row (fun w1 hg => ((h.rb.kept hg (by simp)).qpush (hq.keep hg) hm who hh v x t).mono ?_)).mono ?_
  · rintro e w' ⟨rfl, h1, h2⟩; exact ⟨_, _, rfl, rfl, rfl, h1, h2⟩
  · rintro e w' ⟨w1, u0, r0, hg, rfl, rfl, rfl, h1, h2⟩
    exact ⟨rfl, ⟨(h.hd.keep hg).kept h2 (by simp; exact fun e => h.pB e.symm), (h.rb.kept hg (by simp)).kept h2 (by simp; exact fun e => h.qB e.symm), h1, h.pB, h.qB⟩, grown_trans (grown_weaken _ hg) h2⟩
theorem Rwt.push_no {w : World} {p q B m : Nat} {ms : List Int} (h : Rwt w p q B m ms) (hm : ms.length = m) (who : Int) (hw : who ≠ 0) (hh v x t : Int) :
    Calls Tryz.prog 7 #[.pointer (some ⟨p, 0, none⟩), .int .u32 who, askV 8 hh v x t] w fun e w' => e = .returned (.tuple #[.int .u32 0, .int .i64 7]) ∧ Rwt w' p q B m ms ∧ w.grownBy w' none := by
  obtain ⟨f, c, hq⟩ := h.qu
  refine (h.hd.try_of (R := fun w1 u0 r0 w' => u0 = .int .u32 0 ∧ r0 = .int .i64 7 ∧ w1.grownBy w' none) (by decide) who 8 hh v x t hw (by decide) (fun e => absurd e (by decide)) (nilAhead_row q) (method_row q) enter_row (fun w1 hg => ((h.rb.kept hg (by simp)).qpush_no (hq.keep hg) hm who hh v x t).mono ?_)).mono ?_
  · rintro e w' ⟨rfl, h2⟩; exact ⟨_, _, rfl, rfl, rfl, h2⟩
  · rintro e w' ⟨w1, u0, r0, hg, rfl, rfl, rfl, h2⟩; exact ⟨rfl, h.keep (grown_trans hg h2), grown_trans hg h2⟩
theorem Rwt.get {w : World} {p q B m : Nat} {u : Int} {ms : List Int} (h : Rwt w p q B m (u :: ms)) (who : Int) (hw : who ≠ 0) (hh v x t : Int) :
    Calls Tryz.prog 7 #[.pointer (some ⟨p, 0, none⟩), .int .u32 who, askV 9 hh v x t] w fun e w' => e = .returned (.tuple #[.int .u32 u, .int .i64 0]) ∧ Rwt w' p q B m ms ∧ w.grownBy w' (some B) := by
  obtain ⟨f, c, hq⟩ := h.qu
  refine (h.hd.try_of (R := fun w1 u0 r0 w' => u0 = .int .u32 u ∧ r0 = .int .i64 0 ∧ (∃ f' c', Que w' B m ms f' c') ∧ w1.grownBy w' (some B)) (by decide) who 9 hh v x t hw (by decide) (fun e => absurd e (by decide)) (nilAhead_row q) (method_row q) enter_row (fun w1 hg => ((h.rb.kept hg (by simp)).qget (hq.keep hg)  who hh v x t).mono ?_)).mono ?_
  · rintro e w' ⟨rfl, h1, h2⟩; exact ⟨_, _, rfl, rfl, rfl, h1, h2⟩
  · rintro e w' ⟨w1, u0, r0, hg, rfl, rfl, rfl, h1, h2⟩
    exact ⟨rfl, ⟨(h.hd.keep hg).kept h2 (by simp; exact fun e => h.pB e.symm), (h.rb.kept hg (by simp)).kept h2 (by simp; exact fun e => h.qB e.symm), h1, h.pB, h.qB⟩, grown_trans (grown_weaken _ hg) h2⟩
theorem Rwt.get_no {w : World} {p q B m : Nat} (h : Rwt w p q B m []) (who : Int) (hw : who ≠ 0) (hh v x t : Int) :
    Calls Tryz.prog 7 #[.pointer (some ⟨p, 0, none⟩), .int .u32 who, askV 9 hh v x t] w fun e w' => e = .returned (.tuple #[.int .u32 0, .int .i64 7]) ∧ Rwt w' p q B m [] ∧ w.grownBy w' none := by
  obtain ⟨f, c, hq⟩ := h.qu
  refine (h.hd.try_of (R := fun w1 u0 r0 w' => u0 = .int .u32 0 ∧ r0 = .int .i64 7 ∧ w1.grownBy w' none) (by decide) who 9 hh v x t hw (by decide) (fun e => absurd e (by decide)) (nilAhead_row q) (method_row q) enter_row (fun w1 hg => ((h.rb.kept hg (by simp)).qget_no (hq.keep hg)  who hh v x t).mono ?_)).mono ?_
  · rintro e w' ⟨rfl, h2⟩; exact ⟨_, _, rfl, rfl, rfl, h2⟩
  · rintro e w' ⟨w1, u0, r0, hg, rfl, rfl, rfl, h2⟩; exact ⟨rfl, h.keep (grown_trans hg h2), grown_trans hg h2⟩
theorem Rwt.peek {w : World} {p q B m : Nat} {u : Int} {ms : List Int} (h : Rwt w p q B m (u :: ms)) (who : Int) (hw : who ≠ 0) (hh v x t : Int) :
    Calls Tryz.prog 7 #[.pointer (some ⟨p, 0, none⟩), .int .u32 who, askV 10 hh v x t] w fun e w' => e = .returned (.tuple #[.int .u32 u, .int .i64 0]) ∧ Rwt w' p q B m (u :: ms) ∧ w.grownBy w' none := by
  obtain ⟨f, c, hq⟩ := h.qu
  refine (h.hd.try_of (R := fun w1 u0 r0 w' => u0 = .int .u32 u ∧ r0 = .int .i64 0 ∧ w1.grownBy w' none) (by decide) who 10 hh v x t hw (by decide) (fun e => absurd e (by decide)) (nilAhead_row q) (method_row q) enter_row (fun w1 hg => ((h.rb.kept hg (by simp)).qpeek (hq.keep hg)  who hh v x t).mono ?_)).mono ?_
  · rintro e w' ⟨rfl, h2⟩; exact ⟨_, _, rfl, rfl, rfl, h2⟩
  · rintro e w' ⟨w1, u0, r0, hg, rfl, rfl, rfl, h2⟩; exact ⟨rfl, h.keep (grown_trans hg h2), grown_trans hg h2⟩
theorem Rwt.peek_no {w : World} {p q B m : Nat} (h : Rwt w p q B m []) (who : Int) (hw : who ≠ 0) (hh v x t : Int) :
    Calls Tryz.prog 7 #[.pointer (some ⟨p, 0, none⟩), .int .u32 who, askV 10 hh v x t] w fun e w' => e = .returned (.tuple #[.int .u32 0, .int .i64 11]) ∧ Rwt w' p q B m [] ∧ w.grownBy w' none := by
  obtain ⟨f, c, hq⟩ := h.qu
  refine (h.hd.try_of (R := fun w1 u0 r0 w' => u0 = .int .u32 0 ∧ r0 = .int .i64 11 ∧ w1.grownBy w' none) (by decide) who 10 hh v x t hw (by decide) (fun e => absurd e (by decide)) (nilAhead_row q) (method_row q) enter_row (fun w1 hg => ((h.rb.kept hg (by simp)).qpeek_no (hq.keep hg)  who hh v x t).mono ?_)).mono ?_
  · rintro e w' ⟨rfl, h2⟩; exact ⟨_, _, rfl, rfl, rfl, h2⟩
  · rintro e w' ⟨w1, u0, r0, hg, rfl, rfl, rfl, h2⟩; exact ⟨rfl, h.keep (grown_trans hg h2), grown_trans hg h2⟩
end Go.Proofs.YtneamjaglgnmkaaGreatDoor
