/- Slices of numbers of the call's own, from any place of a block on. -/
import Derived.Test.YtmjcanamfijdjaaDoorOwn
import Derived.ArgAppend
namespace Tk
open Go Go.RowKit Go.Shelf
/-- The slice v, of the call's own, has the numbers xs; its block is from base on; the cells up to its capacity are there, and may be written. -/
def MineO (w : World) (base : Nat) (k : IntKind) (v : Value) (xs : List Int) : Prop :=
  ∃ b o c, v = .slice (some ⟨b, o, none⟩) xs.length c ∧ base ≤ b ∧ b < w.heap.size ∧ xs.length ≤ c ∧ c ≤ maxLen ∧ (∀ j, j < c → (w.cell? ⟨b, o + j, none⟩).isSome = true ∧ w.frozen? ⟨b, o + j, none⟩ = false) ∧
    ∀ j, j < xs.length → w.cell? ⟨b, o + j, none⟩ = some (.int k (gd xs j))
theorem MineO.of {w : World} {base g n c : Nat} {e : TypeId} {k : IntKind} {xs : List Int} (h : Mine w base e k (.slice (some ⟨g, 0, none⟩) n c) xs) : MineO w base k (.slice (some ⟨g, 0, none⟩) n c) xs := by
  obtain ⟨A, c', e', h1, h2, h3⟩ := h.form
  have hn : n = xs.length := by cases e'; rfl
  have hc : c = c' := by cases e'; rfl
  subst hn hc
  obtain ⟨l1, l2⟩ := h.lt
  refine ⟨g, 0, c, rfl, l1, l2, h1, h2, fun j hj => ⟨?_, by simpa using h.frozen j⟩, fun j hj => by simpa using h.cell hj⟩
  obtain ⟨-, h9⟩ := h
  rcases h9 with ⟨h', _⟩ | ⟨g', cap', cur, h', hb, hg, hnc, hcm, hcs, htake⟩
  · cases h'
  · cases h'
    unfold World.cell?
    simp only [hg]
    simp
    omega
theorem MineO.kept {w w' : World} {base : Nat} {k : IntKind} {v : Value} {xs : List Int} {row : Option Nat} (h : MineO w base k v xs) (hg : w.grownBy w' row) (hr : ∀ b, row = some b → b < base) : MineO w' base k v xs := by
  obtain ⟨b, o, c, rfl, h1, h2, h3, h4, h5, h6⟩ := h
  have hb : w'.heap[b]? = w.heap[b]? := hg.block b h2 (fun e => by have := hr b e.symm; omega)
  refine ⟨b, o, c, rfl, h1, Nat.lt_of_lt_of_le h2 hg.size, h3, h4, fun j hj => ?_, fun j hj => ?_⟩
  · rw [World.cell?_of_block (w := w) hb, World.frozen?_of_block (w := w) hb]; exact h5 j hj
  · rw [World.cell?_of_block (w := w) hb]; exact h6 j hj
theorem MineO.keep {w w' : World} {base : Nat} {k : IntKind} {v : Value} {xs : List Int} (h : MineO w base k v xs) (hg : w.grownBy w' none) : MineO w' base k v xs := h.kept hg (by simp)
theorem MineO.drewN {w : World} {base : Nat} {k : IntKind} {v : Value} {xs : List Int} (h : MineO w base k v xs) (n : Nat) : MineO (w.drewN n) base k v xs := h.keep (grown_drewN (grown_refl _ _) n)
theorem MineO.sl {w : World} {base b o n c : Nat} {k : IntKind} {xs : List Int} (h : MineO w base k (.slice (some ⟨b, o, none⟩) n c) xs) : SlA w base w.heap.size k (some ⟨b, o, none⟩) xs := by
  obtain ⟨b', o', c', e, h1, h2, h3, h4, h5, h6⟩ := h
  cases e
  exact ⟨Nat.le_refl _, .inr ⟨b, o, rfl, h1, h2, fun i hi => by rw [h6 i hi, gd_lt hi]⟩⟩
/-- Without its first one, as Go slices it. -/
theorem MineO.tail {w : World} {base b o n c : Nat} {k : IntKind} {x : Int} {xs : List Int} (h : MineO w base k (.slice (some ⟨b, o, none⟩) n c) (x :: xs)) :
    MineO w base k (.slice (some ⟨b, o + 1, none⟩) xs.length (c - 1)) xs ∧ (xs = [] → MineO w base k (.slice (some ⟨b, o, none⟩) 0 0) []) := by
  obtain ⟨b', o', c', e, h1, h2, h3, h4, h5, h6⟩ := h
  cases e
  simp only [List.length_cons] at h3 h6
  refine ⟨⟨b, o + 1, c - 1, rfl, h1, h2, by omega, by omega, fun j hj => ?_, fun j hj => ?_⟩, fun _ => ⟨b, o, 0, rfl, h1, h2, Nat.le_refl _, by simp, fun j hj => absurd hj (Nat.not_lt_zero _), fun j hj => absurd hj (Nat.not_lt_zero _)⟩⟩
  · have := h5 (j + 1) (by omega)
    rwa [show o + (j + 1) = o + 1 + j by omega] at this
  · have := h6 (j + 1) (by omega)
    rw [show o + (j + 1) = o + 1 + j by omega] at this
    rw [this]; rfl
/-- append of one number, wherever the slice begins. -/
theorem wpList_append_mineO {P : Program} (w : World) {ops : Array Oper} {rest : List Oper} {o : Oper} {a : Act} {Q : Exit → Act → World → Prop}
    (hg : o.guard = none) (s x : Operand) (t : TypeId) (hop : o.op = Op.call { callee := Callee.builtin Builtin.append, args := #[s, x], argTypes := #[t, t] })
    (base : Nat) (e : TypeId) (i : TypeInfo) (k : IntKind) (z : Value) (bytes : Nat) (h1 : P.underlying t = some (.slice e)) (h2 : P.info? e = some i) (h3 : i.zero = some z) (h4 : i.size = 1) (h5 : i.bytes = bytes) (h6 : z.cells.size = 1)
    (v : Value) (xs : List Int) (hs : a.eval s = v) (hM : MineO w base k v xs) (ad : Addr) (c : Nat) (y : Int) (hx : a.eval x = .slice (some ad) 1 c) (hc : ∀ j u, [Value.int k y][j]? = some u → w.cell? (ad.add j) = some u)
    (b1 : xs.length + 1 ≤ maxLen) (b2 : (xs.length + 1) * bytes ≤ 140737488355328) (hbase : base ≤ w.heap.size)
    (hK : ∀ v' w', MineO w' base k v' (xs ++ [y]) → (∃ r, w.grownBy w' r ∧ ∀ b, r = some b → base ≤ b) → wpList P ops Q rest (a.put o.dst v') w') :
    wpList P ops Q (o :: rest) a w := by
  obtain ⟨b, off, cap, rfl, g1, g2, g3, g4, g5, g6⟩ := hM
  refine wpList_append_arg w hg s x t hop e i z 1 bytes h1 h2 h3 h4 h5 h6 (by decide) b off xs.length cap (xs.map (Value.int k)) hs (by simp) ?_ ad 1 c [Value.int k y] hx rfl hc (by simp [Value.oneCell']) ?_ b1 b2 ?_ ?_
  · intro j u hu
    have hj : j < xs.length := by
      by_cases hj : j < xs.length
      · exact hj
      · rw [List.getElem?_eq_none (by simpa using hj)] at hu; cases hu
    rw [g6 j hj, gd_lt hj]
    rw [List.getElem?_map, List.getElem?_eq_getElem hj] at hu
    exact hu
  · intro hroom j hj
    have : j = 0 := by simp at hj; omega
    subst this
    have := g5 xs.length (by omega)
    simpa using this
  · intro hroom
    refine hK _ _ ⟨b, off, cap, by simp, g1, ?_, by simpa using hroom, g4, fun j hj => ?_, fun j hj => ?_⟩ ⟨some b, grownBy_setCell w b (off + xs.length * 1) (.int k y), by simpa using g1⟩
    · show b < (w.heap.modify _ _).size
      simpa using g2
    · by_cases e1 : j = xs.length
      · subst e1
        refine ⟨?_, ?_⟩
        · have := World.cell?_setCells_in b [Value.int k y] (off + xs.length * 1) w (fun q hq => by
            have : q = 0 := by simp at hq; omega
            subst this; simpa using (g5 xs.length hj).1) 0 (by simp)
          have e2 : off + xs.length * 1 + 0 = off + xs.length := by omega
          rw [e2] at this
          rw [this]; rfl
        · rw [World.frozen?_setCells]; exact (g5 _ hj).2
      · rw [World.frozen?_setCells, World.cell?_setCells_out b [Value.int k y] (off + xs.length * 1) w ⟨b, off + j, none⟩ (fun _ _ => by simp; omega)]
        exact g5 j hj
    · simp only [List.length_append, List.length_singleton] at hj
      by_cases e1 : j = xs.length
      · subst e1
        have := World.cell?_setCells_in b [Value.int k y] (off + xs.length * 1) w (fun q hq => by
          have : q = 0 := by simp at hq; omega
          subst this; simpa using (g5 xs.length (by omega)).1) 0 (by simp)
        have e2 : off + xs.length * 1 + 0 = off + xs.length := by omega
        rw [e2] at this
        rw [this]; simp [gd]
      · rw [World.cell?_setCells_out b [Value.int k y] (off + xs.length * 1) w ⟨b, off + j, none⟩ (fun _ _ => by simp; omega), g6 j (by omega)]
        unfold gd; rw [List.getElem?_append_left (by omega)]
  · intro hgrow v' w' hown hgr
    have hM' : Mine w' w.heap.size e k v' (xs ++ [y]) := Mine.add (by simpa using hown)
    obtain ⟨g, c', rfl, q1, q2, q3, q4⟩ := hM'.snoc
    have := MineO.of q3
    obtain ⟨b', o', c'', e1, r1, r2, r3, r4, r5, r6⟩ := this
    exact hK _ _ ⟨b', o', c'', e1, Nat.le_trans hbase r1, r2, r3, r4, r5, r6⟩ ⟨none, hgr, by simp⟩
end Tk
