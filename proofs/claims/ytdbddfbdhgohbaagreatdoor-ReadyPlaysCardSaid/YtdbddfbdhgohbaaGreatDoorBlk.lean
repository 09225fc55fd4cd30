/- A whole block of numbers, told by a list. -/
import Derived.Test.YtdbddfbdhgohbaaGreatDoorOwn
import Derived.Laws.CopyOwn
import Derived.Laws.AppendOwnNone
import Derived.OwnWalk
namespace Tk
open Go Go.RowKit Go.Shelf
def Blk (w : World) (M : Nat) (T : TypeId) (k : IntKind) (xs : List Int) : Prop := w.heap[M]? = some (.cells (xs.map (Value.int k)).toArray T (0, 0))
theorem Blk.lt {w : World} {M : Nat} {T : TypeId} {k : IntKind} {xs : List Int} (h : Blk w M T k xs) : M < w.heap.size := (Array.getElem?_eq_some_iff.1 h).1
theorem Blk.cell {w : World} {M : Nat} {T : TypeId} {k : IntKind} {xs : List Int} (h : Blk w M T k xs) {i : Nat} (hi : i < xs.length) : w.cell? ⟨M, i, none⟩ = some (.int k (gd xs i)) := by
  unfold World.cell?
  simp only [show w.heap[M]? = _ from h]
  simp [hi, gd]
theorem Blk.frozen {w : World} {M : Nat} {T : TypeId} {k : IntKind} {xs : List Int} (h : Blk w M T k xs) (i : Nat) : w.frozen? ⟨M, i, none⟩ = false := by
  unfold World.frozen?
  simp [show w.heap[M]? = _ from h]
theorem Blk.of_block {w w' : World} {M : Nat} {T : TypeId} {k : IntKind} {xs : List Int} (h : Blk w M T k xs) (hb : w'.heap[M]? = w.heap[M]?) : Blk w' M T k xs := hb.trans h
theorem Blk.kept {w w' : World} {M : Nat} {T : TypeId} {k : IntKind} {xs : List Int} {row : Option Nat} (h : Blk w M T k xs) (hg : w.grownBy w' row) (hr : row ≠ some M) : Blk w' M T k xs :=
  h.of_block (hg.block M h.lt (fun e => hr e.symm))
theorem Blk.alloc {w : World} {M : Nat} {T : TypeId} {k : IntKind} {xs : List Int} (h : Blk w M T k xs) (o : Obj) : Blk (w.alloc o) M T k xs := h.kept (World.grownBy_alloc w o none) (by simp)
theorem Blk.drawn {w w' : World} {M : Nat} {T : TypeId} {k : IntKind} {xs : List Int} (h : Blk w M T k xs) (hd : Drawn w w') : Blk w' M T k xs := by obtain ⟨n, rfl⟩ := hd; exact h
/-- A slice of the block. -/
theorem Blk.sl {w : World} {M : Nat} {T : TypeId} {k : IntKind} {xs : List Int} (h : Blk w M T k xs) (o m : Nat) (hm : o + m ≤ xs.length) : SlA w M (M + 1) k (some ⟨M, o, none⟩) ((xs.drop o).take m) := by
  refine ⟨h.lt, .inr ⟨M, o, rfl, Nat.le_refl _, Nat.lt_succ_self _, fun i hi => ?_⟩⟩
  have hi' : i < m := by simp at hi; omega
  rw [h.cell (i := o + i) (by omega), gd_lt (by omega : o + i < xs.length)]
  simp
theorem Blk.all {w : World} {M : Nat} {T : TypeId} {k : IntKind} {xs : List Int} (h : Blk w M T k xs) : SlA w M (M + 1) k (some ⟨M, 0, none⟩) xs := by
  have := h.sl 0 xs.length (by omega)
  simpa using this
theorem Blk.of_owns {w : World} {base g n : Nat} {e : TypeId} {k : IntKind} {xs : List Int} (h : w.ownsRow base e 1 (.slice (some ⟨g, 0, none⟩) n n) n (xs.map (Value.int k))) : Blk w g e k xs ∧ xs.length = n ∧ base ≤ g := by
  obtain ⟨hl, h2⟩ := h
  rcases h2 with ⟨h', _⟩ | ⟨g', cap', cur, h', hb, hg, hnc, hcm, hcs, htake⟩
  · cases h'
  · cases h'
    refine ⟨?_, by simpa using hl, hb⟩
    unfold Blk
    rw [hg, ← htake]
    congr 2
    apply Array.ext'
    simp
    rw [List.take_of_length_le]
    simp; omega
/-- A block that is written anew, in part. -/
theorem Blk.put {w : World} {M : Nat} {T : TypeId} {k : IntKind} {xs : List Int} (h : Blk w M T k xs) (o : Nat) (ys : List Int) :
    Blk (w.setRow M ((xs.map (Value.int k)).toArray.toList.take o ++ (ys.map (Value.int k) ++ (xs.map (Value.int k)).toArray.toList.drop (o + (ys.map (Value.int k)).length))).toArray) M T k (xs.take o ++ ys ++ xs.drop (o + ys.length)) := by
  unfold Blk
  rw [setRow_heap w M _ _ T _ h]
  simp [List.map_take, List.map_drop]
theorem Blk.write {w : World} {M : Nat} {T : TypeId} {k : IntKind} {xs : List Int} (h : Blk w M T k xs) (zs : List Int) (cs : Array Value) (hc : cs = (zs.map (Value.int k)).toArray) : Blk (w.setRow M cs) M T k zs := by
  subst hc
  unfold Blk
  rw [setRow_heap w M _ _ T _ h]
theorem grown_setRow (w : World) (M : Nat) (cs : Array Value) : w.grownBy (w.setRow M cs) (some M) :=
  ⟨rfl, rfl, rfl, by simp [World.setRow], fun k _ hk => setRow_other w M k cs (fun e => hk (by rw [e]))⟩
theorem _root_.Tk.SlA.src {w : World} {lo hi b o : Nat} {k : IntKind} {xs : List Int} (h : SlA w lo hi k (some ⟨b, o, none⟩) xs) : ∀ j u, (xs.map (Value.int k))[j]? = some u → w.cell? ((⟨b, o, none⟩ : Addr).add j) = some u := by
  intro j u hu
  have hj : j < xs.length := by
    by_cases hj : j < xs.length
    · exact hj
    · rw [List.getElem?_eq_none (by simpa using hj)] at hu; cases hu
  have e0 : ((⟨b, o, none⟩ : Addr).add j) = ⟨b, o + j, none⟩ := by
    unfold Addr.add; by_cases hi0 : j = 0 <;> simp [hi0]
  rw [e0, h.cell hj, gd_lt hj]
  rw [List.getElem?_map, List.getElem?_eq_getElem hj] at hu
  exact hu
end Tk
