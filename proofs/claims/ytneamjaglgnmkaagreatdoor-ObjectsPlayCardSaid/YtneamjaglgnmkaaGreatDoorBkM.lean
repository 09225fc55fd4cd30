/- The book of lists, in plain words: rows of the call's own with room behind them; append, and what it leaves. -/
import Derived.Test.YtneamjaglgnmkaaGreatDoorOwn
import Derived.Maps.AppendAt
import Derived.Laws.AppendOwn
import Derived.Deep.RegionLaw
namespace Tk
open Go Go.RowKit Go.Shelf
set_option linter.unusedVariables false
set_option linter.unusedSimpArgs false
/-- Block g has the numbers xs at its head, and room for c; nobody has frozen it. -/
def Rw (w : World) (e : TypeId) (k : IntKind) (g c : Nat) (xs : List Int) : Prop :=
  ∃ cur, w.heap[g]? = some (.cells cur e (0, 0)) ∧ xs.length ≤ c ∧ c ≤ maxLen ∧ c ≤ cur.size ∧ cur.toList.take xs.length = xs.map (Value.int k)
theorem Rw.lt {w : World} {e : TypeId} {k : IntKind} {g c : Nat} {xs : List Int} (h : Rw w e k g c xs) : g < w.heap.size := by
  obtain ⟨cur, hh, _⟩ := h; exact (Array.getElem?_eq_some_iff.1 hh).1
theorem Rw.of_block {w w' : World} {e : TypeId} {k : IntKind} {g c : Nat} {xs : List Int} (h : Rw w e k g c xs) (hb : w'.heap[g]? = w.heap[g]?) : Rw w' e k g c xs := by
  obtain ⟨cur, hh, r⟩ := h; exact ⟨cur, hb.trans hh, r⟩
theorem Rw.cells {w : World} {e : TypeId} {k : IntKind} {g c : Nat} {xs : List Int} (h : Rw w e k g c xs) : ∀ j u, (xs.map (Value.int k))[j]? = some u → w.cell? ((⟨g, 0, none⟩ : Addr).add j) = some u := by
  obtain ⟨cur, hh, h1, h2, h3, h4⟩ := h
  intro j u hj
  have e0 : ((⟨g, 0, none⟩ : Addr).add j) = ⟨g, j, none⟩ := by
    unfold Addr.add; by_cases hi0 : j = 0 <;> simp [hi0]
  rw [e0]
  unfold World.cell?
  simp only [hh]
  rw [← h4, List.getElem?_take] at hj
  split at hj
  · simpa using hj
  · cases hj
theorem Rw.sl {w : World} {e : TypeId} {k : IntKind} {g c : Nat} {xs : List Int} (h : Rw w e k g c xs) : SlA w g (g + 1) k (some ⟨g, 0, none⟩) xs := by
  refine ⟨h.lt, .inr ⟨g, 0, rfl, Nat.le_refl _, Nat.lt_succ_self _, fun i hi => ?_⟩⟩
  have := h.cells i (.int k xs[i]) (by simp [hi])
  have e0 : ((⟨g, 0, none⟩ : Addr).add i) = ⟨g, 0 + i, none⟩ := by
    unfold Addr.add; by_cases hi0 : i = 0 <;> simp [hi0]
  rwa [e0] at this
theorem Rw.cell {w : World} {e : TypeId} {k : IntKind} {g c : Nat} {xs : List Int} (h : Rw w e k g c xs) {i : Nat} (hi : i < xs.length) : w.cell? ⟨g, i, none⟩ = some (.int k (gd xs i)) := by
  have := h.sl.cell hi; rwa [Nat.zero_add] at this
theorem Rw.frozen {w : World} {e : TypeId} {k : IntKind} {g c : Nat} {xs : List Int} (h : Rw w e k g c xs) (i : Nat) : w.frozen? ⟨g, i, none⟩ = false := by
  obtain ⟨cur, hh, _⟩ := h
  unfold World.frozen?
  simp [hh]
theorem Rw.of_own {w : World} {base : Nat} {e : TypeId} {k : IntKind} {g n c : Nat} {xs : List Int} (h : w.ownsRow base e 1 (.slice (some ⟨g, 0, none⟩) n c) xs.length (xs.map (Value.int k))) : Rw w e k g c xs ∧ n = xs.length := by
  obtain ⟨hl, h2⟩ := h
  rcases h2 with ⟨h', _⟩ | ⟨g', cap', cur, h', hb, hg, hnc, hcm, hcs, htake⟩
  · cases h'
  · cases h'
    exact ⟨⟨cur, hg, hnc, hcm, by omega, by rw [Nat.mul_one] at htake; exact htake⟩, rfl⟩
theorem Rw.cut {w : World} {e : TypeId} {k : IntKind} {g c c' : Nat} {xs : List Int} (h : Rw w e k g c xs) (m : Nat) (h1 : m ≤ xs.length) (h2 : m ≤ c') (h3 : c' ≤ c) : Rw w e k g c' (xs.take m) := by
  obtain ⟨cur, hh, q1, q2, q3, q4⟩ := h
  have hl : (xs.take m).length = m := by rw [List.length_take]; omega
  refine ⟨cur, hh, by omega, by omega, by omega, ?_⟩
  rw [hl, List.map_take, ← q4, List.take_take]
  congr 1; omega
/-- One number is written. -/
theorem Rw.set {w : World} {e : TypeId} {k : IntKind} {g c : Nat} {xs : List Int} (h : Rw w e k g c xs) {i : Nat} (hi : i < xs.length) (x : Int) : Rw (w.setCell ⟨g, i, none⟩ (.int k x)) e k g c (xs.set i x) := by
  obtain ⟨cur, hh, q1, q2, q3, q4⟩ := h
  obtain ⟨hlt, hk'⟩ := Array.getElem?_eq_some_iff.1 hh
  refine ⟨cur.setIfInBounds i (.int k x), ?_, by rw [List.length_set]; exact q1, q2, by simpa using q3, ?_⟩
  · show (w.heap.modify g _)[g]? = _
    rw [Array.getElem?_eq_getElem (by rw [Array.size_modify]; exact hlt), Array.getElem_modify_self, hk']
    simp
  · rw [List.length_set, List.map_set, ← q4]
    simp [List.take_set]
/-- A list that was handed over: nil, or a row of a block's. -/
def Lg (w : World) (e : TypeId) (k : IntKind) (v : Value) (xs : List Int) : Prop := v = .slice none 0 0 ∧ xs = [] ∨ ∃ g c, v = .slice (some ⟨g, 0, none⟩) xs.length c ∧ Rw w e k g c xs
theorem Lg.lt {w : World} {e : TypeId} {k : IntKind} {v : Value} {xs : List Int} (h : Lg w e k v xs) : ∀ b, v.ownBlock = some b → b < w.heap.size := by
  rcases h with ⟨rfl, -⟩ | ⟨g, c, rfl, hR⟩
  · intro b h; cases h
  · intro b h; cases h; exact hR.lt
theorem Lg.kept {w w' : World} {e : TypeId} {k : IntKind} {v : Value} {xs : List Int} (h : Lg w e k v xs) {row : Option Nat} (hg : w.grownBy w' row) (hne : v.ownBlock = none ∨ v.ownBlock ≠ row) : Lg w' e k v xs := by
  rcases h with h | ⟨g, c, rfl, hR⟩
  · exact .inl h
  · refine .inr ⟨g, c, rfl, hR.of_block (hg.block g hR.lt ?_)⟩
    rcases hne with h | h
    · cases h
    · exact h
theorem Lg.keep {w w' : World} {e : TypeId} {k : IntKind} {v : Value} {xs : List Int} (h : Lg w e k v xs) (hg : w.grownBy w' none) : Lg w' e k v xs :=
  h.kept hg (by cases v.ownBlock <;> simp)
theorem Lg.fr {w w' : World} {e : TypeId} {k : IntKind} {v : Value} {xs : List Int} {S : Nat → Prop} (h : Lg w e k v xs) (hg : Fr S w w') (hne : ∀ b, v.ownBlock = some b → ¬ S b) : Lg w' e k v xs := by
  rcases h with h | ⟨g, c, rfl, hR⟩
  · exact .inl h
  · exact .inr ⟨g, c, rfl, hR.of_block (hg.block g hR.lt (hne g rfl))⟩
theorem Lg.sl {w : World} {e : TypeId} {k : IntKind} {v : Value} {xs : List Int} (h : Lg w e k v xs) : ∃ A c, v = .slice A xs.length c ∧ xs.length ≤ c ∧ SlA w 0 w.heap.size k A xs := by
  rcases h with ⟨rfl, rfl⟩ | ⟨g, c, rfl, hR⟩
  · exact ⟨none, 0, rfl, Nat.le_refl _, Nat.le_refl _, .inl rfl⟩
  · have := hR.lt
    refine ⟨_, c, rfl, ?_, hR.sl.wide (Nat.zero_le _) this (Nat.le_refl _)⟩
    obtain ⟨cur, _, h1, _⟩ := hR; exact h1
theorem Lg.of_mine {w : World} {base : Nat} {e : TypeId} {k : IntKind} {v : Value} {xs : List Int} (h : Mine w base e k v xs) : Lg w e k v xs := by
  obtain ⟨A, c, rfl, h1, h2, h3⟩ := h.form
  rcases h3 with ⟨rfl, rfl⟩ | ⟨g, rfl, -, -⟩
  · left
    rcases h.2 with ⟨e1, -⟩ | ⟨g, _, _, e1, -⟩
    · exact ⟨e1, rfl⟩
    · cases e1
  · right
    exact ⟨g, c, rfl, (Rw.of_own h).1⟩
section
variable {P : Program} (w : World)
/-- append of one number onto such a list: what it makes, and what it leaves. -/
theorem run_append_lg (t ty e : TypeId) (k : IntKind) (i : TypeInfo) (bytes : Nat) (ht : P.underlying t = some (.slice e)) (hi : P.info? e = some i) (hz : i.zero = some (.int k 0))
    (hsize : i.size = 1) (hby : i.bytes = bytes) (v : Value) (xs : List Int) (h : Lg w e k v xs) (ad : Addr) (x : Int) (hx : w.cell? ad = some (.int k x))
    (h63 : xs.length + 1 ≤ maxLen) (hbytes : (xs.length + 1) * bytes ≤ 140737488355328) :
    ∃ v' w', (Builtin.append_ #[t, t] ty #[v, .slice (some ad) 1 1]).run P w = .ok v' w' ∧ Lg w' e k v' (xs ++ [x]) ∧ w.grownBy w' v.ownBlock ∧ (v'.ownBlock = v.ownBlock ∨ v'.ownBlock = some w.heap.size) ∧
      (∀ u ys, Lg w e k u ys → (v.ownBlock = u.ownBlock → ys.length ≤ xs.length) → Lg w' e k u ys) := by
  have hnews : ∀ j u, [Value.int k x][j]? = some u → w.cell? (ad.add j) = some u := by
    intro j u hj
    match j, hj with
    | 0, hj => simp at hj; subst hj; exact hx
  have h1 : ∀ u ∈ [Value.int k x], u.oneCell' = true := by simp [Value.oneCell']
  rcases h with ⟨rfl, rfl⟩ | ⟨g, c, rfl, hR⟩
  · obtain ⟨v', w', hr, hown, hg, -, hat⟩ := run_append_own_at (P := P) w 0 t ty e i (.int k 0) 1 bytes ht hi hz hsize hby rfl (by decide) (.slice none 0 0) 0 [] (World.ownsRow_nil _ _ _ _) ad 1 1 [.int k x] rfl hnews h1 (by simpa using h63) (by simpa using hbytes) (Nat.zero_le _)
    have hown' : w'.ownsRow 0 e 1 v' 1 ([x].map (Value.int k)) := by simpa using hown
    have hM : Mine w' 0 e k v' [x] := hown'
    obtain ⟨A, cap, rfl, -, -, h3⟩ := hM.form
    rcases h3 with ⟨-, h3⟩ | ⟨g, rfl, -, -⟩
    · cases h3
    · exact ⟨_, w', hr, .inr ⟨g, cap, rfl, (Rw.of_own (xs := [x]) hown').1⟩, hg, hat, fun u ys hu _ => hu.keep hg⟩
  · obtain ⟨cur, hh, q1, q2, q3, q4⟩ := hR
    by_cases hroom : xs.length + 1 ≤ c
    · have hr := run_append_room (P := P) w t ty e i ht hi g xs.length c cur hh ad 1 1 [.int k x] (by simp [hsize]) hnews h1 hroom (by simp [hsize]; omega)
      simp only [hsize, Nat.mul_one] at hr
      have hsl : xs.length ≤ cur.toList.length := by simp; omega
      have htk : ∀ m, m ≤ xs.length → (cur.toList.take xs.length ++ [Value.int k x] ++ cur.toList.drop (xs.length + [Value.int k x].length)).take m = cur.toList.take m := fun m hm => by
        rw [List.append_assoc, List.take_append_of_le_length (by rw [List.length_take]; omega), List.take_take, Nat.min_eq_left hm]
      refine ⟨_, _, hr, .inr ⟨g, c, by simp, ⟨_, setRow_heap w g cur _ e _ hh, by simpa using hroom, q2, ?_, ?_⟩⟩, ?_, .inl rfl, ?_⟩
      · simp; simp at hsl; omega
      · have hl : (cur.toList.take xs.length ++ [Value.int k x]).length = (xs ++ [x]).length := by simp; simp at hsl; omega
        show (cur.toList.take xs.length ++ [Value.int k x] ++ cur.toList.drop (xs.length + [Value.int k x].length)).take _ = _
        rw [List.take_left' hl, q4]; simp
      · exact ⟨rfl, rfl, rfl, by simp, fun j _ hj => setRow_other w g j _ (fun e => hj (by simp [Value.ownBlock, e]))⟩
      · intro u ys hu hle
        rcases hu with ⟨rfl, rfl⟩ | ⟨g0, c0, rfl, cur0, hh0, p1, p2, p3, p4⟩
        · exact .inl ⟨rfl, rfl⟩
        · by_cases eg : g0 = g
          · subst eg
            have hcc : cur0 = cur := by rw [hh] at hh0; cases hh0; rfl
            subst hcc
            have hle' := hle rfl
            refine .inr ⟨g0, c0, rfl, _, setRow_heap w g0 cur0 _ e _ hh, p1, p2, ?_, ?_⟩
            · simp; simp at hsl; omega
            · rw [← p4]; exact htk _ hle'
          · exact .inr ⟨g0, c0, rfl, cur0, (setRow_other w g g0 _ eg).trans hh0, p1, p2, p3, p4⟩
    · have hr := run_append_grow (P := P) w t ty e i (.int k 0) ht hi hz ⟨g, 0, none⟩ xs.length c (xs.map (Value.int k)) (by simp [hsize]) (Rw.cells ⟨cur, hh, q1, q2, q3, q4⟩) ad 1 1 [.int k x] (by simp [hsize]) hnews (by omega) (by simp only [maxLen] at h63; omega) (growslice_fits (by omega) (by rw [hby]; exact hbytes))
      have hge := grownCap_ge w (xs.length + 1) c e
      have hcm : grownCap w (xs.length + 1) c e ≤ maxLen := grownCap_le_maxLen w (xs.length + 1) c e h63
      refine ⟨_, _, hr, .inr ⟨w.heap.size, grownCap w (xs.length + 1) c e, by simp, ⟨_, _root_.Go.heap_alloc_new w.drew _, by simpa using hge, hcm, ?_, ?_⟩⟩, ⟨rfl, rfl, rfl, by simp, fun j hj _ => Below.heap_alloc w.drew _ j hj⟩, .inr rfl, fun u ys hu _ => ?_⟩
      · simp [size_zeroCells, Value.cells]; omega
      · simp only [Array.toList_append, List.append_assoc]
        rw [← List.append_assoc]
        rw [show (xs ++ [x]).map (Value.int k) = (xs.map (Value.int k)) ++ [Value.int k x] by simp]
        exact List.take_left' (by simp)
      · exact hu.keep ⟨rfl, rfl, rfl, by simp, fun j hj _ => Below.heap_alloc w.drew _ j hj⟩
end
/-- At the operation. -/
theorem wpList_append_lg {P : Program} {w : World} {ops : Array Oper} {rest : List Oper} {o : Oper} {a : Go.Act} {Q : Exit → Go.Act → World → Prop} (hgd : o.guard = none) (s x : Operand) (t : TypeId)
    (ho : o.op = .call { callee := .builtin .append, args := #[s, x], argTypes := #[t, t] }) (e : TypeId) (k : IntKind) (i : TypeInfo) (bytes : Nat) (ht : P.underlying t = some (.slice e)) (hi : P.info? e = some i) (hz : i.zero = some (.int k 0))
    (hsize : i.size = 1) (hby : i.bytes = bytes) (v : Value) (xs : List Int) (hs : a.eval s = v) (h : Lg w e k v xs) (ad : Addr) (y : Int) (hx : a.eval x = .slice (some ad) 1 1) (hy : w.cell? ad = some (.int k y))
    (h63 : xs.length + 1 ≤ maxLen) (hbytes : (xs.length + 1) * bytes ≤ 140737488355328)
    (hK : ∀ v' w', Lg w' e k v' (xs ++ [y]) → w.grownBy w' v.ownBlock → (v'.ownBlock = v.ownBlock ∨ v'.ownBlock = some w.heap.size) →
      (∀ u ys, Lg w e k u ys → (v.ownBlock = u.ownBlock → ys.length ≤ xs.length) → Lg w' e k u ys) → wpList P ops Q rest (a.put o.dst v') w') : wpList P ops Q (o :: rest) a w := by
  refine wpList_plain hgd fun K hK' => ?_
  obtain ⟨v', w', hr, h2, h3, h4, h5⟩ := run_append_lg (P := P) (w := w) t o.type e k i bytes ht hi hz hsize hby v xs h ad y hy h63 hbytes
  unfold Oper.wp execOp
  simp only [ho, resolve, invoke, builtin, Sem.run_bind, Sem.run_pure, Result.andThen_ok, List.map_toArray, List.map_cons, List.map_nil, hs, hx, hr]
  exact hK' _ _ (hK v' w' h2 h3 h4 h5)
end Tk
