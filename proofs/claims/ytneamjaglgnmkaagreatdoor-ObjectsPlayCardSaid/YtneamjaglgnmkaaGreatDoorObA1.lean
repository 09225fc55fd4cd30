/- Package objects: who leaves, every kind. -/
import Derived.Test.YtneamjaglgnmkaaGreatDoorObFl
namespace Go.Proofs.YtneamjaglgnmkaaGreatDoor
open Go.RowKit Go.Shelf Tk Tk.Msk
set_option linter.unusedVariables false
set_option linter.unusedSimpArgs false
theorem common_leave (who : Int) (w : World) : Calls Tryz.prog 115 #[.agg #[], .int .u32 who] w fun e w' => e = .returned (.bool false) ∧ w.grownBy w' none := by
  go_enter Tryz.func115, Tryz.ntmps115
  go_wp2
  go_ret
  exact ⟨rfl, World.grownBy_alloc _ _ _⟩
theorem enter_common (args : Array Value) (w : World) : (callFunc 115 args).run Tryz.prog w = .ok (.enter 115 args) w := by kernel_rfl
set_option maxRecDepth 100000 in
set_option maxHeartbeats 2000000 in
/-- A thing that nobody has: who leaves it had nothing. -/
theorem Hd.leave_at {w : World} {p k : Nat} {a b : Int} {T : TypeId} {x : Value} (h : Hd w p k a b T x) (who : Int) (hw : who ≠ 0)
    (hn : ∀ w, (nilAhead 306 T x "timekeeper/objects.leave").run Tryz.prog w = .ok (some false) w)
    (hm : (method 306 T x "timekeeper/objects.leave").run Tryz.prog w = .ok (115, .agg #[]) w) :
    Calls Tryz.prog 8 #[.pointer (some ⟨p, 0, none⟩), .int .u32 who] w fun e w' => e = .returned (.bool false) ∧ w.grownBy w' none := by
  have hwb : (who != 0) = true := by simpa using hw
  have hcf := enter_common
  have hK := Lib.hid h
  have hi := h.it
  clear h
  go_enter Tryz.func8, Tryz.ntmps8
  go_wp2_with (first
    | (go_at_call 19; refine (Hd.there hK.out).mono ?_; rintro e wr ⟨rfl, rfl⟩)
    | (go_at_call 115; refine (common_leave who _).mono ?_; rintro e w2 ⟨rfl, hg⟩; replace hg := Lib.hid hg))
  go_ret
  exact ⟨by simp, hg.out⟩
set_option maxRecDepth 100000 in
theorem Hd.leave_zero {w : World} {p k : Nat} {a b : Int} {T : TypeId} {x : Value} (h : Hd w p k a b T x) :
    Calls Tryz.prog 8 #[.pointer (some ⟨p, 0, none⟩), .int .u32 0] w fun e w' => e = .returned (.bool false) ∧ w = w' := by
  have hK := Lib.hid h
  have hi := h.it
  clear h
  go_enter Tryz.func8, Tryz.ntmps8
  go_wp2_with (go_at_call 19; refine (Hd.there hK.out).mono ?_; rintro e wr ⟨rfl, rfl⟩)
  go_ret
  exact ⟨rfl, rfl⟩
set_option maxRecDepth 100000 in
theorem tleave_nil (who : Int) (w : World) : Calls Tryz.prog 8 #[.pointer none, .int .u32 who] w fun e w' => e = .returned (.bool false) ∧ w = w' := by
  go_enter Tryz.func8, Tryz.ntmps8
  go_wp2_with (go_at_call 19; refine (tthere_nil _).mono ?_; rintro e wr ⟨rfl, rfl⟩)
  go_ret
  exact ⟨rfl, rfl⟩
set_option maxRecDepth 100000 in
set_option maxHeartbeats 2000000 in
theorem ttry_nil (who c hh v m t : Int) (w : World) : Calls Tryz.prog 7 #[.pointer none, .int .u32 who, askV c hh v m t] w fun e w' => e = .returned (.tuple #[.int .u32 0, .int .i64 2]) ∧ w.grownBy w' none := by
  have hG := Lib.hid (fun A => World.grownBy_alloc w A none)
  unfold askV
  go_enter Tryz.func7, Tryz.ntmps7
  go_wp2_with (go_at_call 19; refine (tthere_nil _).mono ?_; rintro e wr ⟨rfl, rfl⟩)
  go_ret2
  exact ⟨rfl, hG.out _⟩
theorem shape_of {w : World} {q : Nat} {c : Array Value} {T : TypeId} (h : w.heap[q]? = some (.cells c T (0, 0))) : w.shape? q = some (T, c.size) := by
  unfold World.shape?; simp only [h]
theorem nilAhead_countL (q : Nat) (w : World) : (nilAhead 306 64 (.pointer (some ⟨q, 0, none⟩)) "timekeeper/objects.leave").run Tryz.prog w = .ok (some false) w := by kernel_rfl
theorem nilAhead_rowL (q : Nat) (w : World) : (nilAhead 306 75 (.pointer (some ⟨q, 0, none⟩)) "timekeeper/objects.leave").run Tryz.prog w = .ok (some false) w := by kernel_rfl
theorem nilAhead_flagsL (q : Nat) (w : World) : (nilAhead 306 78 (.pointer (some ⟨q, 0, none⟩)) "timekeeper/objects.leave").run Tryz.prog w = .ok (some false) w := by kernel_rfl
theorem nilAhead_alarmL (w : World) : (nilAhead 306 88 (.agg #[]) "timekeeper/objects.leave").run Tryz.prog w = .ok (some false) w := by kernel_rfl
theorem method_alarmL (w : World) : (method 306 88 (.agg #[]) "timekeeper/objects.leave").run Tryz.prog w = .ok (115, .agg #[]) w := by kernel_rfl
theorem Cnt.leave {w : World} {p q : Nat} {a n m : Int} (h : Cnt w p q a n m) (who : Int) (hw : who ≠ 0) :
    Calls Tryz.prog 8 #[.pointer (some ⟨p, 0, none⟩), .int .u32 who] w fun e w' => e = .returned (.bool false) ∧ w.grownBy w' none :=
  h.hd.leave_at who hw (nilAhead_countL q) (method_embedB embed_count (shape_of h.cb) _)
theorem Rwt.leave {w : World} {p q B m : Nat} {ms : List Int} (h : Rwt w p q B m ms) (who : Int) (hw : who ≠ 0) :
    Calls Tryz.prog 8 #[.pointer (some ⟨p, 0, none⟩), .int .u32 who] w fun e w' => e = .returned (.bool false) ∧ w.grownBy w' none :=
  h.hd.leave_at who hw (nilAhead_rowL q) (method_embedB embed_row (shape_of h.rb) _)
/-- Flags as a thing. -/
structure Flg (w : World) (p q : Nat) (a : Int) (n : Nat) : Prop where
  hd : Hd w p 4 a 0 78 (.pointer (some ⟨q, 0, none⟩))
  cb : FlgB w q n
  ne : p ≠ q
  lt : n < 4294967296
theorem Flg.keep {w w' : World} {p q : Nat} {a : Int} {n : Nat} (h : Flg w p q a n) (hg : w.grownBy w' none) : Flg w' p q a n := ⟨h.hd.keep hg, h.cb.kept hg (by simp), h.ne, h.lt⟩
theorem Flg.leave {w : World} {p q : Nat} {a : Int} {n : Nat} (h : Flg w p q a n) (who : Int) (hw : who ≠ 0) :
    Calls Tryz.prog 8 #[.pointer (some ⟨p, 0, none⟩), .int .u32 who] w fun e w' => e = .returned (.bool false) ∧ w.grownBy w' none :=
  h.hd.leave_at who hw (nilAhead_flagsL q) (method_embedB embed_flags (shape_of h.cb) _)
/-- An alarm. -/
def Alm (w : World) (p : Nat) (a b : Int) : Prop := Hd w p 6 a b 88 (.agg #[])
theorem Alm.leave {w : World} {p : Nat} {a b : Int} (h : Alm w p a b) (who : Int) (hw : who ≠ 0) :
    Calls Tryz.prog 8 #[.pointer (some ⟨p, 0, none⟩), .int .u32 who] w fun e w' => e = .returned (.bool false) ∧ w.grownBy w' none :=
  Hd.leave_at h who hw nilAhead_alarmL (method_alarmL w)
/-! ### What is asked of flags, and of an alarm -/
theorem nilAhead_flags (q : Nat) (w : World) : (nilAhead 306 78 (.pointer (some ⟨q, 0, none⟩)) "timekeeper/objects.try").run Tryz.prog w = .ok (some false) w := by kernel_rfl
theorem method_flags (q : Nat) (w : World) : (method 306 78 (.pointer (some ⟨q, 0, none⟩)) "timekeeper/objects.try").run Tryz.prog w = .ok (127, .pointer (some ⟨q, 0, none⟩)) w := by kernel_rfl
theorem enter_flags (args : Array Value) (w : World) : (callFunc 127 args).run Tryz.prog w = .ok (.enter 127 args) w := by kernel_rfl
theorem nilAhead_alarm (w : World) : (nilAhead 306 88 (.agg #[]) "timekeeper/objects.try").run Tryz.prog w = .ok (some false) w := by kernel_rfl
theorem method_alarm (w : World) : (method 306 88 (.agg #[]) "timekeeper/objects.try").run Tryz.prog w = .ok (140, .agg #[]) w := by kernel_rfl
theorem enter_alarm (args : Array Value) (w : World) : (callFunc 140 args).run Tryz.prog w = .ok (.enter 140 args) w := by kernel_rfl
theorem Flg.turn {w w' w1 : World} {p q : Nat} {a : Int} {n m : Nat} (h : Flg w p q a n) (hg : w.grownBy w1 none) (h1 : FlgB w' q m) (hm : m < 4294967296) (h2 : w1.grownBy w' (some q)) : Flg w' p q a m ∧ w.grownBy w' (some q) :=
  ⟨⟨(h.hd.keep hg).kept h2 (by simp; exact fun e => h.ne e.symm), h1, h.ne, hm⟩, grown_trans (grown_weaken _ hg) h2⟩
theorem Flg.raise {w : World} {p q : Nat} {a : Int} {n : Nat} (h : Flg w p q a n) (who : Int) (hw : who ≠ 0) (v : Nat) (hv : v < 4294967296) (hh x t : Int) :
    Calls Tryz.prog 7 #[.pointer (some ⟨p, 0, none⟩), .int .u32 who, askV 12 hh v x t] w fun e w' => e = .returned (.tuple #[.int .u32 (n ||| v : Nat), .int .i64 0]) ∧ Flg w' p q a (n ||| v) ∧ w.grownBy w' (some q) := by
  refine (h.hd.try_of (R := fun w1 u r w' => u = .int .u32 (n ||| v : Nat) ∧ r = .int .i64 0 ∧ FlgB w' q (n ||| v) ∧ w1.grownBy w' (some q)) (by decide) who 12 hh v x t hw (by decide) (fun e => absurd e (by decide)) (nilAhead_flags q) (method_flags q) enter_flags (fun w1 hg => ((h.cb.kept hg (by simp)).raise h.lt v hv who hh x t).mono ?_)).mono ?_
  · rintro e w' ⟨rfl, h1, h2⟩; exact ⟨_, _, rfl, rfl, rfl, h1, h2⟩
  · rintro e w' ⟨w1, u, r, hg, rfl, rfl, rfl, h1, h2⟩; exact ⟨rfl, h.turn hg h1 (or_lt h.lt hv) h2⟩
theorem Flg.lower {w : World} {p q : Nat} {a : Int} {n : Nat} (h : Flg w p q a n) (who : Int) (hw : who ≠ 0) (v : Nat) (hv : v < 4294967296) (hh x t : Int) :
    Calls Tryz.prog 7 #[.pointer (some ⟨p, 0, none⟩), .int .u32 who, askV 13 hh v x t] w fun e w' => e = .returned (.tuple #[.int .u32 (goneN n v), .int .i64 0]) ∧ Flg w' p q a (goneN n v) ∧ w.grownBy w' (some q) := by
  refine (h.hd.try_of (R := fun w1 u r w' => u = .int .u32 (goneN n v) ∧ r = .int .i64 0 ∧ FlgB w' q (goneN n v) ∧ w1.grownBy w' (some q)) (by decide) who 13 hh v x t hw (by decide) (fun e => absurd e (by decide)) (nilAhead_flags q) (method_flags q) enter_flags (fun w1 hg => ((h.cb.kept hg (by simp)).lower h.lt v hv who hh x t).mono ?_)).mono ?_
  · rintro e w' ⟨rfl, h1, h2⟩; exact ⟨_, _, rfl, rfl, rfl, h1, h2⟩
  · rintro e w' ⟨w1, u, r, hg, rfl, rfl, rfl, h1, h2⟩; exact ⟨rfl, h.turn hg h1 (goneN_lt h.lt) h2⟩
theorem Flg.await {w : World} {p q : Nat} {a : Int} {n : Nat} (h : Flg w p q a n) (who : Int) (hw : who ≠ 0) (v : Nat) (hv : v < 4294967296) (x : Nat) (hx : x ≤ 3) (hno : holdsN n v (decide (x % 2 = 1)) = true) (hh t : Int) :
    Calls Tryz.prog 7 #[.pointer (some ⟨p, 0, none⟩), .int .u32 who, askV 11 hh v x t] w fun e w' => e = .returned (.tuple #[.int .u32 (metN n v), .int .i64 0]) ∧ Flg w' p q a (afterN n v (decide (x % 2 = 1)) (decide (2 ≤ x))) ∧ w.grownBy w' (some q) := by
  refine (h.hd.try_of (R := fun w1 u r w' => u = .int .u32 (metN n v) ∧ r = .int .i64 0 ∧ FlgB w' q (afterN n v (decide (x % 2 = 1)) (decide (2 ≤ x))) ∧ w1.grownBy w' (some q)) (by decide) who 11 hh v x t hw (by decide) (fun _ => by omega) (nilAhead_flags q) (method_flags q) enter_flags (fun w1 hg => ((h.cb.kept hg (by simp)).await h.lt v hv x hx hno who hh t).mono ?_)).mono ?_
  · rintro e w' ⟨rfl, h1, h2⟩; exact ⟨_, _, rfl, rfl, rfl, h1, h2⟩
  · rintro e w' ⟨w1, u, r, hg, rfl, rfl, rfl, h1, h2⟩; exact ⟨rfl, h.turn hg h1 (afterN_lt h.lt _ _) h2⟩
theorem Flg.await_no {w : World} {p q : Nat} {a : Int} {n : Nat} (h : Flg w p q a n) (who : Int) (hw : who ≠ 0) (v : Nat) (hv : v < 4294967296) (x : Nat) (hx : x ≤ 3) (hno : holdsN n v (decide (x % 2 = 1)) = false) (hh t : Int) :
    Calls Tryz.prog 7 #[.pointer (some ⟨p, 0, none⟩), .int .u32 who, askV 11 hh v x t] w fun e w' => e = .returned (.tuple #[.int .u32 0, .int .i64 7]) ∧ w.grownBy w' none := by
  refine (h.hd.try_of (R := fun w1 u r w' => u = .int .u32 0 ∧ r = .int .i64 7 ∧ w1.grownBy w' none) (by decide) who 11 hh v x t hw (by decide) (fun _ => by omega) (nilAhead_flags q) (method_flags q) enter_flags (fun w1 hg => ((h.cb.kept hg (by simp)).await_no h.lt v hv x hx hno who hh t).mono ?_)).mono ?_
  · rintro e w' ⟨rfl, h2⟩; exact ⟨_, _, rfl, rfl, rfl, h2⟩
  · rintro e w' ⟨w1, u, r, hg, rfl, rfl, rfl, h2⟩; exact ⟨rfl, grown_trans hg h2⟩
set_option maxRecDepth 100000 in
theorem alarm_try (who c hh v m t : Int) (w : World) : Calls Tryz.prog 140 #[.agg #[], .int .u32 who, askV c hh v m t] w fun e w' => e = .returned (.tuple #[.int .u32 0, .int .i64 1]) ∧ w.grownBy w' none := by
  unfold askV
  go_enter Tryz.func140, Tryz.ntmps140
  go_wp2
  go_ret2
  exact ⟨rfl, grown_alloc (World.grownBy_alloc _ _ _) _⟩
theorem Alm.try {w : World} {p : Nat} {a b : Int} (h : Alm w p a b) (who : Int) (hw : who ≠ 0) (c : Int) (hc : c ∈ fitL 6) (hh v m t : Int) :
    Calls Tryz.prog 7 #[.pointer (some ⟨p, 0, none⟩), .int .u32 who, askV c hh v m t] w fun e w' => e = .returned (.tuple #[.int .u32 0, .int .i64 1]) ∧ w.grownBy w' none := by
  refine (Hd.try_of h (R := fun w1 u r w' => u = .int .u32 0 ∧ r = .int .i64 1 ∧ w1.grownBy w' none) (by decide) who c hh v m t hw hc (fun e => absurd e (by rintro rfl; revert hc; decide)) nilAhead_alarm method_alarm enter_alarm (fun w1 hg => (alarm_try who c hh v m t w1).mono ?_)).mono ?_
  · rintro e w' ⟨rfl, hg⟩; exact ⟨_, _, rfl, rfl, rfl, hg⟩
  · rintro e w' ⟨w1, u, r, hg, rfl, rfl, rfl, h2⟩; exact ⟨rfl, grown_trans hg h2⟩
end Go.Proofs.YtneamjaglgnmkaaGreatDoor
