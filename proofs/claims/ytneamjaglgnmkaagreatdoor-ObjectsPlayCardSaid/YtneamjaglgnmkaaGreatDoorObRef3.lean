/- timekeeperref18: how things are made. -/
import Derived.Test.YtneamjaglgnmkaaGreatDoorObRef2
namespace Go.Proofs.YtneamjaglgnmkaaGreatDoor
open Go.RowKit Go.Shelf Tk Tk.Msk
set_option linter.unusedVariables false
set_option linter.unusedSimpArgs false
namespace RefO
set_option maxRecDepth 100000 in
set_option maxHeartbeats 4000000 in
theorem rnew_no (k a b : Int) (h : ¬ MayP k a b) (w : World) : Calls Tryz.prog 6 #[.agg #[.int .u8 k, .int .u32 a, .int .u32 b]] w fun e w' => e = .returned (.tuple #[.pointer none, .int .i64 1]) ∧ w.grownBy w' none := by
  have hm := Lib.hid (may_not k a b h)
  clear h
  go_enter Tryz.func6, Tryz.ntmps6
  go_wp2_with (go_at_call 18; refine (hm.out _).mono ?_; rintro e w7 ⟨rfl, hg⟩; replace hg := Lib.hid hg)
  go_ret2
  exact ⟨rfl, grown_trans (World.grownBy_alloc _ _ _) hg.out⟩
theorem made0 {w' : World} {R : Nat} (w : World) (k : Nat) (a b n : Int) (h : ∃ W, w.grownBy W none ∧ W.heap.size = R ∧ w' = W.alloc (.cells #[.int .u8 k, .int .u32 a, .int .u32 b, .int .u32 n, .int .u32 0, .slice none 0 0, .slice none 0 0] 91)) :
    RQ w' R (.slice none 0 0) (.slice none 0 0) ⟨k, a, b, n, 0, [], []⟩ ∧ w.heap.size ≤ R ∧ w.grownBy w' none := by
  obtain ⟨W, hg, rfl, rfl⟩ := h
  refine ⟨⟨World.alloc_heap_new W _, Mine.nil _ _ _ _, Mine.nil _ _ _ _, by simp [Value.ownBlock], by simp [Value.ownBlock], .inl rfl, by simp, by simp⟩, hg.size, grown_alloc hg _⟩
set_option maxRecDepth 100000 in
set_option maxHeartbeats 4000000 in
theorem rnew_plain (k : Nat) (a b : Int) (h : MayP k a b) (hk : ((k : Int) == 1) = false ∧ ((k : Int) == 4) = false ∧ ((k : Int) == 5) = false) (w : World) : Calls Tryz.prog 6 #[.agg #[.int .u8 k, .int .u32 a, .int .u32 b]] w fun e w' =>
    ∃ R, e = .returned (.tuple #[.pointer (some ⟨R, 0, none⟩), .int .i64 0]) ∧ RQ w' R (.slice none 0 0) (.slice none 0 0) ⟨k, a, b, 0, 0, [], []⟩ ∧ w.heap.size ≤ R ∧ w.grownBy w' none := by
  have hm := Lib.hid (may_yes k a b h)
  obtain ⟨k1, k4, k5⟩ := hk
  clear h
  have hW := World.alloc_heap_new w (.cells #[.int .u8 k, .int .u32 a, .int .u32 b] 25)
  go_enter Tryz.func6, Tryz.ntmps6
  go_wp2_with (go_at_call 18; refine (hm.out _).mono ?_; rintro e w7 ⟨rfl, hg⟩; have hW7 := (hg.block _ (by simp) (by simp)).trans hW; have c0 := cell_of (i := 0) (v := .int .u8 k) hW7 rfl; have c1 := cell_of (i := 1) (v := .int .u32 a) hW7 rfl; have c2 := cell_of (i := 2) (v := .int .u32 b) hW7 rfl; have hgw := Lib.hid (grown_trans (World.grownBy_alloc w _ none) hg); have hl7 : w.heap.size < w7.heap.size := (Array.getElem?_eq_some_iff.1 hW7).1; replace hg := Lib.hid hg; clear hW hW7)
  go_ret2
  have := made0 (R := w7.heap.size) (w' := _) w k a b 0 ⟨w7, hgw.out, rfl, rfl⟩
  exact ⟨w7.heap.size, rfl, this.1, this.2.1, this.2.2⟩
set_option maxRecDepth 100000 in
set_option maxHeartbeats 4000000 in
theorem rnew_n (k : Nat) (a b : Int) (h : MayP k a b) (hk : ((k : Int) == 1) = true ∨ ((k : Int) == 1) = false ∧ ((k : Int) == 4) = true) (h5 : ((k : Int) == 5) = false) (w : World) : Calls Tryz.prog 6 #[.agg #[.int .u8 k, .int .u32 a, .int .u32 b]] w fun e w' =>
    ∃ R, e = .returned (.tuple #[.pointer (some ⟨R, 0, none⟩), .int .i64 0]) ∧ RQ w' R (.slice none 0 0) (.slice none 0 0) ⟨k, a, b, a, 0, [], []⟩ ∧ w.heap.size ≤ R ∧ w.grownBy w' none := by
  have hm := Lib.hid (may_yes k a b h)
  clear h
  have hW := World.alloc_heap_new w (.cells #[.int .u8 k, .int .u32 a, .int .u32 b] 25)
  rcases hk with k1 | ⟨k1, k4⟩
  all_goals
    go_enter Tryz.func6, Tryz.ntmps6
    go_wp2_with (go_at_call 18; refine (hm.out _).mono ?_; rintro e w7 ⟨rfl, hg⟩; have hW7 := (hg.block _ (by simp) (by simp)).trans hW; have c0 := cell_of (i := 0) (v := .int .u8 k) hW7 rfl; have c1 := cell_of (i := 1) (v := .int .u32 a) hW7 rfl; have c2 := cell_of (i := 2) (v := .int .u32 b) hW7 rfl; have hgw := Lib.hid (grown_trans (World.grownBy_alloc w _ none) hg); have hl7 : w.heap.size < w7.heap.size := (Array.getElem?_eq_some_iff.1 hW7).1; replace hg := Lib.hid hg; clear hW hW7)
    go_ret2
    have := made0 (R := w7.heap.size) (w' := _) w k a b a ⟨w7, hgw.out, rfl, rfl⟩
    exact ⟨w7.heap.size, rfl, this.1, this.2.1, this.2.2⟩
theorem hmake (N : Nat) (h1 : N ≤ 64) (w : World) : (Instr.makeSlice 53 (.int .u32 N) (.int .u32 N)).run Tryz.prog w = .ok (.slice (some ⟨w.heap.size, 0, none⟩) N N) (w.alloc (.cells (madeCells #[.int .u32 0] N) 23)) := by
  obtain ⟨i0, hi0, hz0, hz1, hz2⟩ := info_parts infoW
  have := run_make (P := Tryz.prog) w 53 23 i0 (.int .u32 0) Tryz.underlying53 hi0 hz0 .u32 .u32 N N (by omega) (Int.le_refl _) (by rw [hz2]; omega) (by omega)
  rw [hz1] at this
  simpa [Value.cells] using this
theorem made_words (n : Nat) : (madeCells (Value.int .u32 0).cells (n * 1)).toList = (List.replicate n (0 : Int)).map (Value.int .u32) := by
  apply List.ext_getElem
  · simp [size_madeCells]
  · intro i h1 h2
    simp [madeCells, Value.cells, Nat.mod_one]
theorem made_row (W : World) (n : Nat) (hn : n ≤ 64) : Mine (W.alloc (.cells (madeCells #[.int .u32 0] n) 23)) W.heap.size 23 .u32 (.slice (some ⟨W.heap.size, 0, none⟩) n n) (List.replicate n 0) := by
  have h := made_words n
  rw [Nat.mul_one] at h
  refine ⟨by simp, .inr ⟨W.heap.size, n, madeCells #[.int .u32 0] n, by simp, Nat.le_refl _, _root_.Go.heap_alloc_new W _, by simp, by unfold maxLen; omega, by rw [size_madeCells, Nat.mul_one], ?_⟩⟩
  show List.take (((List.replicate n (0 : Int)).length) * 1) (madeCells #[.int .u32 0] n).toList = _
  rw [List.take_of_length_le (by simp [size_madeCells])]
  simpa [Value.cells] using h
theorem made1 {w : World} (W : World) (n : Nat) (b : Int) (hn : n ≤ 64) (hg : w.grownBy W none) :
    RQ ((W.alloc (.cells #[.int .u8 5, .int .u32 n, .int .u32 b, .int .u32 0, .int .u32 0, .slice none 0 0, .slice (some ⟨W.heap.size + 1, 0, none⟩) n n] 91)).alloc (.cells (madeCells #[.int .u32 0] n) 23)) W.heap.size (.slice none 0 0) (.slice (some ⟨W.heap.size + 1, 0, none⟩) n n) ⟨5, n, b, 0, 0, [], List.replicate n 0⟩ ∧
    w.grownBy ((W.alloc (.cells #[.int .u8 5, .int .u32 n, .int .u32 b, .int .u32 0, .int .u32 0, .slice none 0 0, .slice (some ⟨W.heap.size + 1, 0, none⟩) n n] 91)).alloc (.cells (madeCells #[.int .u32 0] n) 23)) none := by
  have hm := made_row (W.alloc (.cells #[.int .u8 5, .int .u32 n, .int .u32 b, .int .u32 0, .int .u32 0, .slice none 0 0, .slice (some ⟨W.heap.size + 1, 0, none⟩) n n] 91)) n hn
  rw [World.size_alloc] at hm
  refine ⟨⟨?_, Mine.nil _ _ _ _, hm.low (Nat.zero_le _), by simp [Value.ownBlock], by simp [Value.ownBlock], .inl rfl, by simp, by simpa using hn⟩, grown_alloc (grown_alloc hg _) _⟩
  exact ((World.grownBy_alloc _ _ none).block W.heap.size (by simp) (by simp)).trans (World.alloc_heap_new W _)
set_option maxRecDepth 100000 in
set_option maxHeartbeats 4000000 in
theorem rnew_pool (n : Nat) (b : Int) (h : MayP 5 n b) (w : World) : Calls Tryz.prog 6 #[.agg #[.int .u8 5, .int .u32 n, .int .u32 b]] w fun e w' =>
    ∃ R vo, e = .returned (.tuple #[.pointer (some ⟨R, 0, none⟩), .int .i64 0]) ∧ RQ w' R (.slice none 0 0) vo ⟨5, n, b, 0, 0, [], List.replicate n 0⟩ ∧ w.heap.size ≤ R ∧ (∀ b, vo.ownBlock = some b → w.heap.size ≤ b) ∧ w.grownBy w' none := by
  have hm := Lib.hid (may_yes 5 n b h)
  have hn : n ≤ 64 := by unfold MayP at h; omega
  have hmk := hmake n hn
  clear h
  have hW := World.alloc_heap_new w (.cells #[.int .u8 5, .int .u32 n, .int .u32 b] 25)
  go_enter Tryz.func6, Tryz.ntmps6
  go_wp2_with (go_at_call 18; refine (hm.out _).mono ?_; rintro e w7 ⟨rfl, hg⟩; have hW7 := (hg.block _ (by simp) (by simp)).trans hW; have c0 := cell_of (i := 0) (v := .int .u8 5) hW7 rfl; have c1 := cell_of (i := 1) (v := .int .u32 n) hW7 rfl; have c2 := cell_of (i := 2) (v := .int .u32 b) hW7 rfl; have hgw := Lib.hid (grown_trans (World.grownBy_alloc w _ none) hg); have hl7 : w.heap.size < w7.heap.size := (Array.getElem?_eq_some_iff.1 hW7).1; replace hg := Lib.hid hg; clear hW hW7)
  go_ret2
  have hp := made1 (w := w) w7 n b hn hgw.out
  exact ⟨w7.heap.size, _, rfl, hp.1, hgw.out.size, fun x hx => by cases hx; show w.heap.size ≤ w7.heap.size + 1; have := hgw.out.size; omega, hp.2⟩
end RefO
end Go.Proofs.YtneamjaglgnmkaaGreatDoor
