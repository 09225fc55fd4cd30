/- Package objects: a queue as a thing: made, seen. -/
import Derived.Test.YtneamjaglgnmkaaGreatDoorObQ
namespace Go.Proofs.YtneamjaglgnmkaaGreatDoor
open Go.RowKit Go.Shelf Tk
set_option linter.unusedVariables false
set_option linter.unusedSimpArgs false
theorem Hd.made {w : World} {p k : Nat} {a b : Int} (T : TypeId) (x : Value) (h : w.heap[p]? = some (.cells #[.int .u8 k, .int .u32 a, .int .u32 b, .nilIface] 63 (0, 0))) : Hd (w.setCell ⟨p, 3, none⟩ (.iface T x)) p k a b T x := by
  obtain ⟨hlt, hk'⟩ := Array.getElem?_eq_some_iff.1 h
  show (w.heap.modify p _)[p]? = _
  rw [Array.getElem?_eq_getElem (by rw [Array.size_modify]; exact hlt), Array.getElem_modify_self, hk']
  simp
theorem heap2_1 (w : World) (A B : Obj) : ((w.alloc A).alloc B).heap[w.heap.size + 1]? = some B := by
  have := World.alloc_heap_new (w.alloc A) B
  simpa using this
set_option maxRecDepth 100000 in
set_option maxHeartbeats 8000000 in
theorem new_row (m : Nat) (h1 : 1 ≤ m) (h2 : m ≤ 64) (w : World) :
    Calls Tryz.prog 5 #[.agg #[.int .u8 3, .int .u32 m, .int .u32 0]] w fun e w' => ∃ p q B, e = .returned (.tuple #[.pointer (some ⟨p, 0, none⟩), .int .i64 0]) ∧ Rwt w' p q B m [] ∧ w.heap.size ≤ p ∧ w.heap.size ≤ q ∧ w.heap.size ≤ B ∧ w.grownBy w' none := by
  have hwr : IntKind.i64.wrap (m : Int) = m := by rw [IntKind.wrap_i64]; omega
  go_enter Tryz.func5, Tryz.ntmps5
  go_wp2_with (go_at_call 16; refine (new_ok m h1 h2 _).mono ?_; rintro e wr ⟨rfl, hq, hg, hsz⟩; have hp := (hg.block (w.heap.size + 1) (by simp) (by simp)).trans (heap2_1 w _ _); have p3 := cell_of (i := 3) (v := .nilIface) hp rfl; have z3 := frozen_of (i := 3) hp; have hp1 : w.heap.size + 1 < wr.heap.size := (Array.getElem?_eq_some_iff.1 hp).1; replace hp := Lib.hid hp; replace hq := Lib.hid hq; replace hg := Lib.hid hg; replace hsz := Lib.hid hsz)
  go_ret2
  have hq' : Que wr (w.heap.size + 1 + 1) m [] 0 (fun _ => 0) := by simpa using hq.out
  have hs' : wr.heap.size = w.heap.size + 1 + 1 + 1 := by simpa using hsz.out
  have hg' := grown_trans (grown_alloc (World.grownBy_alloc w (.cells #[.int .u8 3, .int .u32 m, .int .u32 0] 25) none) _) hg.out
  have hS := grownBy_setCell wr (w.heap.size + 1) 3 (.iface 75 (.pointer (some ⟨wr.heap.size, 0, none⟩)))
  have hZ : (wr.setCell ⟨w.heap.size + 1, 3, none⟩ (.iface 75 (.pointer (some ⟨wr.heap.size, 0, none⟩)))).heap.size = wr.heap.size := by simp [World.setCell]
  refine ⟨w.heap.size + 1, wr.heap.size, w.heap.size + 1 + 1, rfl, ⟨(Hd.made _ _ hp.out).keep (World.grownBy_alloc _ _ _), ?_, ⟨_, _, (hq'.kept hS (by simp)).keep (World.grownBy_alloc _ _ _)⟩, by omega, by omega⟩, by omega, by omega, by omega, grown_alloc (grown_step hg' hS (by omega)) _⟩
  have := World.alloc_heap_new (wr.setCell ⟨w.heap.size + 1, 3, none⟩ (.iface 75 (.pointer (some ⟨wr.heap.size, 0, none⟩)))) (.cells #[.pointer (some ⟨w.heap.size + 1 + 1, 0, none⟩)] 77)
  rw [hZ] at this
  exact this
end Go.Proofs.YtneamjaglgnmkaaGreatDoor
