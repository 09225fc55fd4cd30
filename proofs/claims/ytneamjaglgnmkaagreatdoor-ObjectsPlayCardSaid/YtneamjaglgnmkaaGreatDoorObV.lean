/- Package objects: a queue as it is seen. -/
import Derived.Test.YtneamjaglgnmkaaGreatDoorObR
namespace Go.Proofs.YtneamjaglgnmkaaGreatDoor
open Go.RowKit Go.Shelf Tk
set_option linter.unusedVariables false
set_option linter.unusedSimpArgs false
theorem isRow (q : Nat) (w : World) : (Instr.typeAssert (.iface 75 (.pointer (some ⟨q, 0, none⟩))) 61 75 true).run Tryz.prog w = .ok (.tuple #[.pointer (some ⟨q, 0, none⟩), .bool true]) w := by kernel_rfl
theorem isRow1 (q : Nat) (w : World) : (Instr.typeAssert (.iface 75 (.pointer (some ⟨q, 0, none⟩))) 61 64 true).run Tryz.prog w = .ok (.tuple #[.pointer none, .bool false]) w := by kernel_rfl
theorem isRow2 (q : Nat) (w : World) : (Instr.typeAssert (.iface 75 (.pointer (some ⟨q, 0, none⟩))) 61 69 true).run Tryz.prog w = .ok (.tuple #[.pointer none, .bool false]) w := by kernel_rfl
theorem heap2_0 (w : World) (A B : Obj) : ((w.alloc A).alloc B).heap[w.heap.size]? = some A :=
  ((World.grownBy_alloc (w.alloc A) B none).block w.heap.size (by simp) (by simp)).trans (World.alloc_heap_new w A)
set_option maxRecDepth 100000 in
set_option maxHeartbeats 8000000 in
theorem Rwt.see {w : World} {p q B m : Nat} {ms : List Int} (h : Rwt w p q B m ms) :
    Calls Tryz.prog 11 #[.pointer (some ⟨p, 0, none⟩)] w fun e w' => ∃ A k, e = .returned (thV 3 m 0 0 0 (.slice A ms.length k) (.slice none 0 0)) ∧ ms.length ≤ k ∧ Mine w' (w.heap.size + 1 + 1) 23 .u32 (.slice A ms.length k) ms ∧ w.grownBy w' none := by
  have hi := h.hd.it
  have hk := h.hd.kind
  have ha := h.hd.ca
  have hb := h.hd.cb
  have hc := cell_of (i := 0) (v := .pointer (some ⟨B, 0, none⟩)) h.rb rfl
  have ht := isRow q
  have ht1 := isRow1 q
  have ht2 := isRow2 q
  have hp := h.hd.lt
  have hq := h.rb.lt
  have hK := Lib.hid h
  clear h
  go_enter Tryz.func11, Tryz.ntmps11
  go_wp2_with (first
    | (go_at_call 19; refine (Hd.there (hK.out.hd.keep (World.grownBy_alloc _ _ _))).mono ?_; rintro e wr ⟨rfl, rfl⟩)
    | (go_at_call 23; obtain ⟨f, c, hqu⟩ := hK.out.qu; refine (list_ok _ (hqu.keep (grown_alloc (World.grownBy_alloc _ _ none) _))).mono ?_; rintro e wl ⟨A, kk, rfl, hkk, hM, hg⟩; have hX := (hg.block (w.heap.size + 1) (by simp) (by simp)).trans (heap2_1 w _ _); have hY := (hg.block w.heap.size (by simp <;> omega) (by simp)).trans (heap2_0 w _ _); have x0 := cell_of (i := 0) (v := .int .u32 0) hX rfl; have xz0 := frozen_of (i := 0) hX; have y0 := cell_of (i := 0) (v := .int .u32 0) hY rfl; have yz0 := frozen_of (i := 0) hY; have x1 := cell_of (i := 1) (v := .int .u8 3) hX rfl; have xz1 := frozen_of (i := 1) hX; have y1 := cell_of (i := 1) (v := .int .u8 0) hY rfl; have yz1 := frozen_of (i := 1) hY; have x2 := cell_of (i := 2) (v := .int .u32 m) hX rfl; have xz2 := frozen_of (i := 2) hX; have y2 := cell_of (i := 2) (v := .int .u32 0) hY rfl; have yz2 := frozen_of (i := 2) hY; have x3 := cell_of (i := 3) (v := .int .u32 0) hX rfl; have xz3 := frozen_of (i := 3) hX; have y3 := cell_of (i := 3) (v := .int .u32 0) hY rfl; have yz3 := frozen_of (i := 3) hY; have x4 := cell_of (i := 4) (v := .int .u32 0) hX rfl; have xz4 := frozen_of (i := 4) hX; have y4 := cell_of (i := 4) (v := .int .u32 0) hY rfl; have yz4 := frozen_of (i := 4) hY; have x5 := cell_of (i := 5) (v := .int .u32 0) hX rfl; have xz5 := frozen_of (i := 5) hX; have y5 := cell_of (i := 5) (v := .int .u32 0) hY rfl; have yz5 := frozen_of (i := 5) hY; have x6 := cell_of (i := 6) (v := .slice none 0 0) hX rfl; have xz6 := frozen_of (i := 6) hX; have y6 := cell_of (i := 6) (v := .slice none 0 0) hY rfl; have yz6 := frozen_of (i := 6) hY; have x7 := cell_of (i := 7) (v := .slice none 0 0) hX rfl; have xz7 := frozen_of (i := 7) hX; have y7 := cell_of (i := 7) (v := .slice none 0 0) hY rfl; have yz7 := frozen_of (i := 7) hY; have x8 := cell_of (i := 8) (v := .int .i64 0) hX rfl; have xz8 := frozen_of (i := 8) hX; have y8 := cell_of (i := 8) (v := .int .i64 0) hY rfl; have yz8 := frozen_of (i := 8) hY; have x9 := cell_of (i := 9) (v := .slice none 0 0) hX rfl; have xz9 := frozen_of (i := 9) hX; have y9 := cell_of (i := 9) (v := .slice none 0 0) hY rfl; have yz9 := frozen_of (i := 9) hY; have hXl : w.heap.size + 1 < wl.heap.size := (Array.getElem?_eq_some_iff.1 hX).1; replace hM := Lib.hid hM; replace hg := Lib.hid (grown_trans (grown_alloc (World.grownBy_alloc _ _ none) _) hg); clear hX hY hqu))
  (try simp only [Exit.inBlock, Exit.then])
  have hM' : Mine wl (w.heap.size + 1 + 1) 23 .u32 (.slice A ms.length kk) ms := by simpa using hM.out
  have st : ∀ (W : World) (b i : Nat) (v : Value), (b = w.heap.size ∨ b = w.heap.size + 1) → (Mine W (w.heap.size + 1 + 1) 23 .u32 (.slice A ms.length kk) ms ∧ w.grownBy W none) →
      (Mine (W.setCell ⟨b, i, none⟩ v) (w.heap.size + 1 + 1) 23 .u32 (.slice A ms.length kk) ms ∧ w.grownBy (W.setCell ⟨b, i, none⟩ v) none) :=
    fun W b i v hb ⟨h1, h2⟩ => ⟨h1.keepB (grownBy_setCell W b i v) (by omega), grown_step h2 (grownBy_setCell W b i v) (by omega)⟩
  refine bodyPost_ret (v := thV 3 m 0 0 0 (.slice A ms.length kk) (.slice none 0 0)) (by simp [results, Tryz.results11, go_sem, thV, World.cell?_setCell_other, y0, y1, y2, y3, y4, y5, y6, y7, y8, y9]) rfl ⟨A, kk, rfl, hkk, ?_⟩
  repeat (refine st _ _ _ _ (by omega) ?_)
  exact ⟨hM', hg.out⟩
end Go.Proofs.YtneamjaglgnmkaaGreatDoor
