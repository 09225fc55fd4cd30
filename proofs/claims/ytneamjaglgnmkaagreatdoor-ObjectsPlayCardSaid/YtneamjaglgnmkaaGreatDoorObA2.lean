/- Package objects: what is refused; things as they are seen; how they are made. -/
import Derived.Test.YtneamjaglgnmkaaGreatDoorObA1
namespace Go.Proofs.YtneamjaglgnmkaaGreatDoor
open Go.RowKit Go.Shelf Tk Tk.Msk
set_option linter.unusedVariables false
set_option linter.unusedSimpArgs false
set_option maxRecDepth 100000 in
set_option maxHeartbeats 8000000 in
theorem Hd.try_zero {w : World} {p k : Nat} {a b : Int} {T : TypeId} {x : Value} (h : Hd w p k a b T x) (hk : 1 ≤ k ∧ k ≤ 6)
    (who c hh v m t : Int) (hw : who = 0) :
    Calls Tryz.prog 7 #[.pointer (some ⟨p, 0, none⟩), .int .u32 who, askV c hh v m t] w fun e w' => e = .returned (.tuple #[.int .u32 0, .int .i64 1]) ∧ w.grownBy w' none := by
  have hw0 : (who == 0) = true := by simpa using hw
  clear hw
  have hK := Lib.hid h
  unfold askV
  go_enter Tryz.func7, Tryz.ntmps7
  go_wp2_with (go_at_call 19; refine (Hd.there (h.keep (World.grownBy_alloc _ _ _))).mono ?_; rintro e wr ⟨rfl, rfl⟩)
  have hg0 := Lib.hid (World.grownBy_alloc w (.cells #[.int .u8 c, .int .u32 hh, .int .u32 v, .int .u32 m, .int .i64 t] 39) none)
  have hB := Lib.hid (World.alloc_heap_new w (.cells #[.int .u8 c, .int .u32 hh, .int .u32 v, .int .u32 m, .int .i64 t] 39))
  obtain ⟨W0, hW0⟩ : ∃ W0, w.alloc (.cells #[.int .u8 c, .int .u32 hh, .int .u32 v, .int .u32 m, .int .i64 t] 39) = W0 := ⟨_, rfl⟩
  rw [hW0] at hg0 hB ⊢
  clear hW0
  obtain ⟨Z, hZ⟩ : ∃ Z, w.heap.size = Z := ⟨_, rfl⟩
  rw [hZ] at hB ⊢
  have k0 := (h.keep hg0.out).kind
  clear h
  have b0 := cell_of (i := 0) (v := .int .u8 c) hB.out rfl
  have b1 := cell_of (i := 1) (v := .int .u32 hh) hB.out rfl
  have b2 := cell_of (i := 2) (v := .int .u32 v) hB.out rfl
  have b3 := cell_of (i := 3) (v := .int .u32 m) hB.out rfl
  have b4 := cell_of (i := 4) (v := .int .i64 t) hB.out rfl
  have hG := Lib.hid (grown_drewN hg0.out)
  go_quiet (fail)
  go_wp2_with fail
  go_ret2
  exact ⟨rfl, hG.out _⟩
section
attribute [local go_sem] undef
set_option maxRecDepth 100000 in
set_option maxHeartbeats 8000000 in
theorem Hd.try_unfit {w : World} {p k : Nat} {a b : Int} {T : TypeId} {x : Value} (h : Hd w p k a b T x) (hk : 1 ≤ k ∧ k ≤ 6)
    (who c hh v m t : Int) (hw : who ≠ 0) (hc : c ∉ fitL k) :
    Calls Tryz.prog 7 #[.pointer (some ⟨p, 0, none⟩), .int .u32 who, askV c hh v m t] w fun e w' => e = .returned (.tuple #[.int .u32 0, .int .i64 1]) ∧ w.grownBy w' none := by
  have hw0 : (who == 0) = false := by simpa using hw
  have hin : decide (c ∈ fitL k) = false := by simpa using hc
  clear hw hc
  have hK := Lib.hid h
  unfold askV
  go_enter Tryz.func7, Tryz.ntmps7
  go_wp2_with (go_at_call 19; refine (Hd.there (h.keep (World.grownBy_alloc _ _ _))).mono ?_; rintro e wr ⟨rfl, rfl⟩)
  have hg0 := Lib.hid (World.grownBy_alloc w (.cells #[.int .u8 c, .int .u32 hh, .int .u32 v, .int .u32 m, .int .i64 t] 39) none)
  have hB := Lib.hid (World.alloc_heap_new w (.cells #[.int .u8 c, .int .u32 hh, .int .u32 v, .int .u32 m, .int .i64 t] 39))
  obtain ⟨W0, hW0⟩ : ∃ W0, w.alloc (.cells #[.int .u8 c, .int .u32 hh, .int .u32 v, .int .u32 m, .int .i64 t] 39) = W0 := ⟨_, rfl⟩
  rw [hW0] at hg0 hB ⊢
  clear hW0
  obtain ⟨Z, hZ⟩ : ∃ Z, w.heap.size = Z := ⟨_, rfl⟩
  rw [hZ] at hB ⊢
  have k0 := (h.keep hg0.out).kind
  clear h
  have b0 := cell_of (i := 0) (v := .int .u8 c) hB.out rfl
  have b1 := cell_of (i := 1) (v := .int .u32 hh) hB.out rfl
  have b2 := cell_of (i := 2) (v := .int .u32 v) hB.out rfl
  have b3 := cell_of (i := 3) (v := .int .u32 m) hB.out rfl
  have b4 := cell_of (i := 4) (v := .int .i64 t) hB.out rfl
  first | go_region_with (go_at_call 20; refine (fits_ok c hh v m t k hk _).mono ?_; rintro e wr ⟨rfl, hg1⟩; replace hg1 := Lib.hid hg1; have hb1 := (hg1.out.block Z ((Array.getElem?_eq_some_iff.1 hB.out).1) (by simp)).trans hB.out; have b0' := cell_of (i := 0) (v := .int .u8 c) hb1 rfl; have b1' := cell_of (i := 1) (v := .int .u32 hh) hb1 rfl; have b2' := cell_of (i := 2) (v := .int .u32 v) hb1 rfl; have b3' := cell_of (i := 3) (v := .int .u32 m) hb1 rfl; have b4' := cell_of (i := 4) (v := .int .i64 t) hb1 rfl; replace hb1 := Lib.hid hb1; have hG := Lib.hid (grown_trans hg0.out (grown_undrew hg1.out))) | fail
  all_goals go_wp2_with fail
  all_goals go_ret2
  all_goals first | exact ⟨rfl, grown_drewN hG.out 1⟩ | exact ⟨rfl, hG.out⟩
end
set_option maxRecDepth 100000 in
set_option maxHeartbeats 8000000 in
theorem Hd.try_much {w : World} {p k : Nat} {a b : Int} {T : TypeId} {x : Value} (h : Hd w p k a b T x) (hk : 1 ≤ k ∧ k ≤ 6)
    (who c hh v m t : Int) (hw : who ≠ 0) (hc : c ∈ fitL k) (h11 : c = 11) (hm : 3 < m) :
    Calls Tryz.prog 7 #[.pointer (some ⟨p, 0, none⟩), .int .u32 who, askV c hh v m t] w fun e w' => e = .returned (.tuple #[.int .u32 0, .int .i64 1]) ∧ w.grownBy w' none := by
  have hw0 : (who == 0) = false := by simpa using hw
  have hin : decide (c ∈ fitL k) = true := by simpa using hc
  have he : (c == 11) = true := by simp [h11]
  have hmm : decide (3 < m) = true := by simpa using hm
  replace h11 := Lib.hid h11
  clear hw hc hm
  have hK := Lib.hid h
  unfold askV
  go_enter Tryz.func7, Tryz.ntmps7
  go_wp2_with (go_at_call 19; refine (Hd.there (h.keep (World.grownBy_alloc _ _ _))).mono ?_; rintro e wr ⟨rfl, rfl⟩)
  have hg0 := Lib.hid (World.grownBy_alloc w (.cells #[.int .u8 c, .int .u32 hh, .int .u32 v, .int .u32 m, .int .i64 t] 39) none)
  have hB := Lib.hid (World.alloc_heap_new w (.cells #[.int .u8 c, .int .u32 hh, .int .u32 v, .int .u32 m, .int .i64 t] 39))
  obtain ⟨W0, hW0⟩ : ∃ W0, w.alloc (.cells #[.int .u8 c, .int .u32 hh, .int .u32 v, .int .u32 m, .int .i64 t] 39) = W0 := ⟨_, rfl⟩
  rw [hW0] at hg0 hB ⊢
  clear hW0
  obtain ⟨Z, hZ⟩ : ∃ Z, w.heap.size = Z := ⟨_, rfl⟩
  rw [hZ] at hB ⊢
  have k0 := (h.keep hg0.out).kind
  clear h
  have b0 := cell_of (i := 0) (v := .int .u8 c) hB.out rfl
  have b1 := cell_of (i := 1) (v := .int .u32 hh) hB.out rfl
  have b2 := cell_of (i := 2) (v := .int .u32 v) hB.out rfl
  have b3 := cell_of (i := 3) (v := .int .u32 m) hB.out rfl
  have b4 := cell_of (i := 4) (v := .int .i64 t) hB.out rfl
  first | (go_region_held3 (fun w' => w'.cell? ⟨p, 0, none⟩ = some (.int .u8 k) ∧ w'.cell? ⟨Z, 0, none⟩ = some (.int .u8 c) ∧ w'.cell? ⟨Z, 1, none⟩ = some (.int .u32 hh) ∧ w'.cell? ⟨Z, 2, none⟩ = some (.int .u32 v) ∧ w'.cell? ⟨Z, 3, none⟩ = some (.int .u32 m) ∧ w'.cell? ⟨Z, 4, none⟩ = some (.int .i64 t))
    (first | exact ⟨grown_cell hg1 k0, grown_cell hg1 b0, grown_cell hg1 b1, grown_cell hg1 b2, grown_cell hg1 b3, grown_cell hg1 b4⟩ | exact ⟨k0, b0, b1, b2, b3, b4⟩)
    (first | (go_at_call 20; refine (fits_ok c hh v m t k hk _).mono ?_; rintro e wr ⟨rfl, hg1⟩; have hG := Lib.hid (grown_trans hg0.out (grown_undrew hg1))))) | fail
  all_goals go_wp2_with fail
  all_goals go_ret2
  all_goals first | exact ⟨rfl, grown_drewN hG.out 1⟩ | exact ⟨rfl, hG.out⟩
/-! ### As they are seen -/
theorem is_lock_count (q : Nat) (w : World) : (Instr.typeAssert (.iface 69 (.pointer (some ⟨q, 0, none⟩))) 61 64 true).run Tryz.prog w = .ok (.tuple #[.pointer none, .bool false]) w := by kernel_rfl
theorem is_lock_lock (q : Nat) (w : World) : (Instr.typeAssert (.iface 69 (.pointer (some ⟨q, 0, none⟩))) 61 69 true).run Tryz.prog w = .ok (.tuple #[.pointer (some ⟨q, 0, none⟩), .bool true]) w := by kernel_rfl
theorem is_flags_count (q : Nat) (w : World) : (Instr.typeAssert (.iface 78 (.pointer (some ⟨q, 0, none⟩))) 61 64 true).run Tryz.prog w = .ok (.tuple #[.pointer none, .bool false]) w := by kernel_rfl
theorem is_flags_lock (q : Nat) (w : World) : (Instr.typeAssert (.iface 78 (.pointer (some ⟨q, 0, none⟩))) 61 69 true).run Tryz.prog w = .ok (.tuple #[.pointer none, .bool false]) w := by kernel_rfl
theorem is_flags_row (q : Nat) (w : World) : (Instr.typeAssert (.iface 78 (.pointer (some ⟨q, 0, none⟩))) 61 75 true).run Tryz.prog w = .ok (.tuple #[.pointer none, .bool false]) w := by kernel_rfl
theorem is_flags_flags (q : Nat) (w : World) : (Instr.typeAssert (.iface 78 (.pointer (some ⟨q, 0, none⟩))) 61 78 true).run Tryz.prog w = .ok (.tuple #[.pointer (some ⟨q, 0, none⟩), .bool true]) w := by kernel_rfl
theorem is_alarm_count (w : World) : (Instr.typeAssert (.iface 88 (.agg #[])) 61 64 true).run Tryz.prog w = .ok (.tuple #[.pointer none, .bool false]) w := by kernel_rfl
theorem is_alarm_lock (w : World) : (Instr.typeAssert (.iface 88 (.agg #[])) 61 69 true).run Tryz.prog w = .ok (.tuple #[.pointer none, .bool false]) w := by kernel_rfl
theorem is_alarm_row (w : World) : (Instr.typeAssert (.iface 88 (.agg #[])) 61 75 true).run Tryz.prog w = .ok (.tuple #[.pointer none, .bool false]) w := by kernel_rfl
theorem is_alarm_flags (w : World) : (Instr.typeAssert (.iface 88 (.agg #[])) 61 78 true).run Tryz.prog w = .ok (.tuple #[.pointer none, .bool false]) w := by kernel_rfl
theorem is_alarm_pool (w : World) : (Instr.typeAssert (.iface 88 (.agg #[])) 61 84 true).run Tryz.prog w = .ok (.tuple #[.pointer none, .bool false]) w := by kernel_rfl
set_option maxRecDepth 100000 in
set_option maxHeartbeats 8000000 in
theorem Lok.see {w : World} {p q : Nat} {o : Int} (h : Lok w p q o) :
    Calls Tryz.prog 11 #[.pointer (some ⟨p, 0, none⟩)] w fun e w' => e = .returned (thV 2 0 0 0 o (.slice none 0 0) (.slice none 0 0)) ∧ w.grownBy w' none := by
  have hi := h.hd.it
  have hk := h.hd.kind
  have ha := h.hd.ca
  have hb := h.hd.cb
  have hc := cell_of (i := 0) (v := .int .u32 o) h.cb rfl
  have ht0 := is_lock_count q
  have ht1 := is_lock_lock q
  have hK := Lib.hid h.hd
  have hp := h.hd.lt
  have hq := h.cb.lt
  clear h
  go_enter Tryz.func11, Tryz.ntmps11
  go_wp2_with (go_at_call 19; refine (Hd.there (hK.out.keep (World.grownBy_alloc _ _ _))).mono ?_; rintro e wr ⟨rfl, rfl⟩)
  (try simp only [Exit.inBlock, Exit.then])
  refine bodyPost_ret (v := thV 2 0 0 0 o (.slice none 0 0) (.slice none 0 0)) (by simp [results, Tryz.results11, go_sem, thV]) rfl ⟨rfl, grown_alloc (World.grownBy_alloc _ _ _) _⟩
set_option maxRecDepth 100000 in
set_option maxHeartbeats 8000000 in
theorem Flg.see {w : World} {p q : Nat} {a : Int} {n : Nat} (h : Flg w p q a n) :
    Calls Tryz.prog 11 #[.pointer (some ⟨p, 0, none⟩)] w fun e w' => e = .returned (thV 4 a 0 n 0 (.slice none 0 0) (.slice none 0 0)) ∧ w.grownBy w' none := by
  have hi := h.hd.it
  have hk := h.hd.kind
  have ha := h.hd.ca
  have hb := h.hd.cb
  have hc := cell_of (i := 0) (v := .int .u32 n) h.cb rfl
  have ht0 := is_flags_count q
  have ht1 := is_flags_lock q
  have ht2 := is_flags_row q
  have ht3 := is_flags_flags q
  have hK := Lib.hid h.hd
  have hp := h.hd.lt
  have hq := h.cb.lt
  clear h
  go_enter Tryz.func11, Tryz.ntmps11
  go_wp2_with (go_at_call 19; refine (Hd.there (hK.out.keep (World.grownBy_alloc _ _ _))).mono ?_; rintro e wr ⟨rfl, rfl⟩)
  (try simp only [Exit.inBlock, Exit.then])
  refine bodyPost_ret (v := thV 4 a 0 n 0 (.slice none 0 0) (.slice none 0 0)) (by simp [results, Tryz.results11, go_sem, thV]) rfl ⟨rfl, grown_alloc (World.grownBy_alloc _ _ _) _⟩
set_option maxRecDepth 100000 in
set_option maxHeartbeats 8000000 in
theorem Alm.see {w : World} {p : Nat} {a b : Int} (h : Alm w p a b) :
    Calls Tryz.prog 11 #[.pointer (some ⟨p, 0, none⟩)] w fun e w' => e = .returned (thV 6 a b 0 0 (.slice none 0 0) (.slice none 0 0)) ∧ w.grownBy w' none := by
  have hi := (show Hd w p 6 a b 88 (.agg #[]) from h).it
  have hk := (show Hd w p 6 a b 88 (.agg #[]) from h).kind
  have ha := (show Hd w p 6 a b 88 (.agg #[]) from h).ca
  have hb := (show Hd w p 6 a b 88 (.agg #[]) from h).cb
  have ht0 := is_alarm_count
  have ht1 := is_alarm_lock
  have ht2 := is_alarm_row
  have ht3 := is_alarm_flags
  have ht4 := is_alarm_pool
  have hK := Lib.hid (show Hd w p 6 a b 88 (.agg #[]) from h)
  have hp := (show Hd w p 6 a b 88 (.agg #[]) from h).lt
  clear h
  go_enter Tryz.func11, Tryz.ntmps11
  go_wp2_with (go_at_call 19; refine (Hd.there (hK.out.keep (World.grownBy_alloc _ _ _))).mono ?_; rintro e wr ⟨rfl, rfl⟩)
  (try simp only [Exit.inBlock, Exit.then])
  refine bodyPost_ret (v := thV 6 a b 0 0 (.slice none 0 0) (.slice none 0 0)) (by simp [results, Tryz.results11, go_sem, thV]) rfl ⟨rfl, grown_alloc (World.grownBy_alloc _ _ _) _⟩
end Go.Proofs.YtneamjaglgnmkaaGreatDoor
