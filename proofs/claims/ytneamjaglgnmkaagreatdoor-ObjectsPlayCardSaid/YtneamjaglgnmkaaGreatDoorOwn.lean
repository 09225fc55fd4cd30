/- Slices of numbers of the call's own, that grow and shrink. -/
import Derived.Test.YtneamjaglgnmkaaGreatDoorBase
namespace Tk
open Go Go.RowKit Go.Shelf
/-- The slice v, of the call's own, has the numbers xs; its block is from base on. -/
def Mine (w : World) (base : Nat) (e : TypeId) (k : IntKind) (v : Value) (xs : List Int) : Prop := w.ownsRow base e 1 v xs.length (xs.map (Value.int k))
theorem Mine.nil (w : World) (base : Nat) (e : TypeId) (k : IntKind) : Mine w base e k (.slice none 0 0) [] := World.ownsRow_nil _ _ _ _
theorem Mine.form {w : World} {base : Nat} {e : TypeId} {k : IntKind} {v : Value} {xs : List Int} (h : Mine w base e k v xs) :
    ∃ A c, v = .slice A xs.length c ∧ xs.length ≤ c ∧ c ≤ maxLen ∧ (A = none ∧ xs = [] ∨ ∃ g, A = some ⟨g, 0, none⟩ ∧ base ≤ g ∧ g < w.heap.size) := by
  obtain ⟨hl, h2⟩ := h
  rcases h2 with ⟨rfl, h0⟩ | ⟨g, cap, cur, rfl, hg, hh, hn, hm, -⟩
  · have : xs = [] := List.length_eq_zero_iff.1 h0
    subst this
    exact ⟨none, 0, rfl, Nat.le_refl _, by simp, .inl ⟨rfl, rfl⟩⟩
  · exact ⟨_, cap, rfl, hn, hm, .inr ⟨g, rfl, hg, (Array.getElem?_eq_some_iff.1 hh).1⟩⟩
theorem Mine.kept {w w' : World} {base : Nat} {e : TypeId} {k : IntKind} {v : Value} {xs : List Int} {row : Option Nat} (h : Mine w base e k v xs) (hg : w.grownBy w' row) (hne : v.ownBlock = none ∨ v.ownBlock ≠ row) : Mine w' base e k v xs :=
  World.ownsRow.kept h hg hne
theorem Mine.keep {w w' : World} {base : Nat} {e : TypeId} {k : IntKind} {v : Value} {xs : List Int} (h : Mine w base e k v xs) (hg : w.grownBy w' none) : Mine w' base e k v xs :=
  h.kept hg (by cases v.ownBlock <;> simp)
theorem Mine.keepB {w w' : World} {base b : Nat} {e : TypeId} {k : IntKind} {v : Value} {xs : List Int} (h : Mine w base e k v xs) (hg : w.grownBy w' (some b)) (hb : b < base) : Mine w' base e k v xs :=
  h.kept hg (by
    rcases hv : v.ownBlock with _ | g
    · exact .inl rfl
    · right; intro e; cases e; have := (World.ownsRow.lt h _ hv).1; omega)
theorem Mine.drewN {w : World} {base : Nat} {e : TypeId} {k : IntKind} {v : Value} {xs : List Int} (h : Mine w base e k v xs) (n : Nat) : Mine (w.drewN n) base e k v xs :=
  h.keep (grown_drewN (grown_refl _ _) n)
theorem Mine.drawn {w w' : World} {base : Nat} {e : TypeId} {k : IntKind} {v : Value} {xs : List Int} (h : Mine w base e k v xs) (hd : Drawn w w') : Mine w' base e k v xs := by
  obtain ⟨n, rfl⟩ := hd; exact h.drewN n
theorem Mine.cell {w : World} {base g c n : Nat} {e : TypeId} {k : IntKind} {xs : List Int} (h : Mine w base e k (.slice (some ⟨g, 0, none⟩) n c) xs) {i : Nat} (hi : i < xs.length) :
    w.cell? ⟨g, i, none⟩ = some (.int k (gd xs i)) := by
  have hn : n = xs.length := by obtain ⟨A, c', e', _⟩ := h.form; cases e'; rfl
  subst hn
  rw [World.ownsRow.cellAt h i (by omega), List.getElem?_map, List.getElem?_eq_getElem hi, gd_lt hi]; rfl
theorem Mine.frozen {w : World} {base g c n : Nat} {e : TypeId} {k : IntKind} {xs : List Int} (h : Mine w base e k (.slice (some ⟨g, 0, none⟩) n c) xs) (i : Nat) : w.frozen? ⟨g, i, none⟩ = false := by
  have hn : n = xs.length := by obtain ⟨A, c', e', _⟩ := h.form; cases e'; rfl
  subst hn
  exact World.ownsRow.frozenAt h i
theorem Mine.sl {w : World} {base : Nat} {e : TypeId} {k : IntKind} {A : Option Addr} {n c : Nat} {xs : List Int} (h : Mine w base e k (.slice A n c) xs) : SlA w base w.heap.size k A xs := by
  obtain ⟨A', c', e', _, _, hs⟩ := SlA.of_owns h
  cases e'; exact hs
theorem Mine.set {w : World} {base g c n : Nat} {e : TypeId} {k : IntKind} {xs : List Int} (h : Mine w base e k (.slice (some ⟨g, 0, none⟩) n c) xs) (i : Nat) (x : Int) :
    Mine (w.setCell ⟨g, i, none⟩ (.int k x)) base e k (.slice (some ⟨g, 0, none⟩) n c) (xs.set i x) := by
  have hn : n = xs.length := by obtain ⟨A, c', e', _⟩ := h.form; cases e'; rfl
  subst hn
  have := (World.ownsRow.stored h i (.int k x)).1
  unfold Mine
  rw [List.map_set, List.length_set]
  exact this
theorem Mine.cut {w : World} {base g c n m : Nat} {e : TypeId} {k : IntKind} {xs : List Int} (h : Mine w base e k (.slice (some ⟨g, 0, none⟩) n c) xs) (hm : m ≤ n) :
    Mine w base e k (.slice (some ⟨g, 0, none⟩) m c) (xs.take m) := by
  have hn : n = xs.length := by obtain ⟨A, c', e', _⟩ := h.form; cases e'; rfl
  subst hn
  obtain ⟨hl, h2⟩ := h
  rcases h2 with ⟨h', _⟩ | ⟨g', cap', cur, h', hb, hg, hnc, hcm, hcs, htake⟩
  · cases h'
  · cases h'
    refine ⟨by simp, .inr ⟨g, c, cur, ?_, hb, hg, by simp; omega, hcm, hcs, ?_⟩⟩
    · have : (xs.take m).length = m := by rw [List.length_take]; omega
      rw [this]
    · rw [List.map_take, ← htake, List.take_take]
      congr 1
      simp
      try omega
theorem Mine.add {w : World} {base : Nat} {e : TypeId} {k : IntKind} {v : Value} {xs : List Int} {x : Int} (h : w.ownsRow base e 1 v (xs.length + 1) (xs.map (Value.int k) ++ [.int k x])) : Mine w base e k v (xs ++ [x]) := by
  unfold Mine; simpa using h
theorem Mine.lt {w : World} {base g c n : Nat} {e : TypeId} {k : IntKind} {xs : List Int} (h : Mine w base e k (.slice (some ⟨g, 0, none⟩) n c) xs) : base ≤ g ∧ g < w.heap.size :=
  World.ownsRow.lt h g rfl
theorem Mine.snoc {w : World} {base : Nat} {e : TypeId} {k : IntKind} {v : Value} {xs : List Int} {x : Int} (h : Mine w base e k v (xs ++ [x])) :
    ∃ g c, v = .slice (some ⟨g, 0, none⟩) (xs.length + 1) c ∧ xs.length + 1 ≤ c ∧ c ≤ maxLen ∧ Mine w base e k (.slice (some ⟨g, 0, none⟩) (xs.length + 1) c) (xs ++ [x]) ∧ base ≤ g := by
  obtain ⟨A, c, rfl, h1, h2, h3⟩ := h.form
  have e1 : (xs ++ [x]).length = xs.length + 1 := by simp
  rcases h3 with ⟨-, h3⟩ | ⟨g, rfl, h3, -⟩
  · simp at h3
  · rw [e1] at h1 h ⊢
    exact ⟨g, c, rfl, h1, h2, h, h3⟩
/-- Two slices with nothing in common. -/
def Apart (v u : Value) : Prop := v.ownBlock = none ∨ v.ownBlock ≠ u.ownBlock
theorem Apart.symm {v u : Value} (h : Apart v u) : Apart u v := by
  rcases h with h | h
  · by_cases hu : u.ownBlock = none
    · exact .inl hu
    · right; rw [h]; exact hu
  · right; exact fun e => h e.symm
theorem Apart.new {w : World} {base : Nat} {e : TypeId} {k : IntKind} {v v' u : Value} {xs : List Int} (h : Apart v u) (hu : Mine w base e k u xs) (hat : v'.ownBlock = v.ownBlock ∨ v'.ownBlock = some (w.heap.size + 1)) : Apart v' u := by
  rcases hat with h1 | h1
  · rcases h with h | h
    · left; rw [h1, h]
    · right; rw [h1]; exact h
  · right; rw [h1]; intro e
    have := (World.ownsRow.lt hu _ e.symm).2; omega

theorem Mine.far {w W w5 : World} {base : Nat} {e : TypeId} {k : IntKind} {v : Value} {xs : List Int} (hO : Mine W base e k v xs) (hg : w.grownBy W none) (hb : w.heap.size ≤ base) (hgrow : W.grownBy w5 v.ownBlock) : w.grownBy w5 none := by
  rcases hv : v.ownBlock with _ | g
  · rw [hv] at hgrow; exact grown_trans hg hgrow
  · rw [hv] at hgrow
    exact grown_step hg hgrow (Nat.le_trans hb (World.ownsRow.lt hO _ hv).1)
theorem Mine.arr {W w5 : World} {base B n : Nat} {f : Nat → Value} {e : TypeId} {k : IntKind} {v : Value} {xs : List Int} (hO : Mine W base e k v xs) (hA : Arr W B n f) (hb : B < base) (hgrow : W.grownBy w5 v.ownBlock) : Arr w5 B n f :=
  hA.kept hgrow (fun h => by have := (World.ownsRow.lt hO _ h).1; omega)
theorem Mine.other {W w5 : World} {base : Nat} {e : TypeId} {k : IntKind} {v u : Value} {xs : List Int} (hu : Mine W base e k u xs) (hap : Apart v u) (hgrow : W.grownBy w5 v.ownBlock) : Mine w5 base e k u xs :=
  hu.kept hgrow (by
    rcases hap.symm with h | h
    · exact .inl h
    · exact .inr h)
theorem perm_eraseIdx : ∀ (l : List Int) (k : Nat) (hk : k < l.length), (l[k] :: l.eraseIdx k).Perm l
  | [], k, hk => absurd hk (by simp)
  | x :: l, 0, hk => by simp
  | x :: l, k + 1, hk => by
    have ih := perm_eraseIdx l k (by simpa using hk)
    simp only [List.getElem_cons_succ, List.eraseIdx_cons_succ]
    exact (List.Perm.swap x _ _).trans (ih.cons x)
/-- One of a list goes: the last one comes in its place. -/
theorem swap_out {l : List Int} {k : Nat} (hk : k < l.length) (hn : l.Nodup) :
    ((l.set k (gd l (l.length - 1))).take (l.length - 1)).Nodup ∧ ∀ x, x ∈ (l.set k (gd l (l.length - 1))).take (l.length - 1) ↔ x ∈ l ∧ x ≠ gd l k := by
  have hp : ((l.set k (gd l (l.length - 1))).take (l.length - 1)).Perm (l.eraseIdx k) := by
    obtain ⟨m, y, rfl⟩ : ∃ m y, l = m ++ [y] := ⟨l.dropLast, l.getLast (by intro e; simp [e] at hk), (List.dropLast_concat_getLast _).symm⟩
    have e1 : (m ++ [y]).length - 1 = m.length := by simp
    have e2 : gd (m ++ [y]) m.length = y := by simp [gd]
    rw [e1, e2]
    by_cases e : k = m.length
    · subst e
      rw [List.set_append_right _ _ (Nat.le_refl _), List.eraseIdx_append_of_length_le (Nat.le_refl _)]
      simp
    · have hkm : k < m.length := by simp at hk; omega
      rw [List.set_append_left _ _ hkm, List.eraseIdx_append_of_lt_length hkm, List.take_append_of_le_length (by simp), List.take_of_length_le (by simp)]
      have h1 := perm_eraseIdx (m.set k y) k (by simpa using hkm)
      simp only [List.getElem_set_self, List.eraseIdx_set_eq] at h1
      exact h1.symm.trans (List.perm_append_singleton y _).symm
  have hq := perm_eraseIdx l k hk
  have hnd : (l[k] :: l.eraseIdx k).Nodup := hq.nodup_iff.2 hn
  rw [List.nodup_cons] at hnd
  refine ⟨hp.nodup_iff.2 hnd.2, fun x => ?_⟩
  rw [hp.mem_iff, gd_lt hk]
  constructor
  · intro hx
    exact ⟨hq.mem_iff.1 (List.mem_cons_of_mem _ hx), fun e => hnd.1 (e ▸ hx)⟩
  · rintro ⟨hx, hne⟩
    have := hq.mem_iff.2 hx
    rw [List.mem_cons] at this
    exact this.resolve_left hne
end Tk
