/- timekeeperref18: the reference's thing. -/
import Derived.Test.YtneamjaglgnmkaaGreatDoorObM2
import Derived.Test.YtneamjaglgnmkaaGreatDoorOwn
import Derived.Test.YtneamjaglgnmkaaGreatDoorObF
import Derived.BigQuiet
import Derived.Maps.AppendAt
namespace Go.Proofs.YtneamjaglgnmkaaGreatDoor
open Go.RowKit Go.Shelf Tk Tk.Msk
set_option linter.unusedVariables false
set_option linter.unusedSimpArgs false
namespace RefO
/-- What the reference holds. -/
structure TR where
  k : Nat
  a : Int
  b : Int
  n : Int
  o : Int
  rs : List Int
  os : List Int
theorem infoW : (Tryz.prog.info? 23).map (fun i => (i.zero, i.size, i.bytes)) = some (some (.int .u32 0), 1, 4) := by kernel_rfl
theorem src_of {w : World} {lo hi : Nat} {k : IntKind} {ad : Addr} {xs : List Int} (h : SlA w lo hi k (some ad) xs) : ∀ j u, (xs.map (Value.int k))[j]? = some u → w.cell? (ad.add j) = some u := by
  intro j u hu
  have hj : j < xs.length := by
    by_cases hj : j < xs.length
    · exact hj
    · rw [List.getElem?_eq_none (by simpa using hj)] at hu; cases hu
  rcases h.2 with h' | ⟨b, o, hA, -⟩
  · rw [h'] at hj; simp at hj
  · cases hA
    have e0 : ((⟨b, o, none⟩ : Addr).add j) = ⟨b, o + j, none⟩ := by
      unfold Addr.add; by_cases hi0 : j = 0 <;> simp [hi0]
    rw [e0, h.cell hj, gd_lt hj]
    rw [List.getElem?_map, List.getElem?_eq_getElem hj] at hu
    exact hu
theorem run_nil_any {P : Program} {w : World} (base : Nat) (t ty e : TypeId) (i : TypeInfo) (size : Nat) (ht : P.underlying t = some (.slice e)) (hi : P.info? e = some i)
    (v : Value) (n m c : Nat) (hm : m = 0) (xs : List Value) (hown : w.ownsRow base e size v n xs) :
    (Builtin.append_ #[t, t] ty #[v, .slice none m c]).run P w = .ok v w := by
  subst hm
  rcases hown.2 with ⟨rfl, rfl⟩ | ⟨g, cap, cur, rfl, _, _, hnc, _⟩
  · simp [Builtin.append_, run_underlying ht, sizeOf, typeInfo, hi, Builtin.lenOf, Builtin.firstCells]
  · simp [Builtin.append_, run_underlying ht, sizeOf, typeInfo, hi, Builtin.lenOf, Builtin.firstCells, hnc, storeCells]
theorem ones (xs : List Int) : ∀ u ∈ xs.map (Value.int .u32), u.oneCell' = true := by
  intro u hu
  rw [List.mem_map] at hu
  obtain ⟨y, -, rfl⟩ := hu
  rfl
/-- append of a list of words onto a row of the call's own: what it answers. -/
theorem run_join {P : Program} {w : World} (base : Nat) (t ty e : TypeId) (i : TypeInfo) (ht : P.underlying t = some (.slice e)) (hi : P.info? e = some i) (hz : i.zero = some (.int .u32 0)) (hsize : i.size = 1) (hby : i.bytes = 4)
    (v : Value) (ys : List Int) (hown : Mine w base e .u32 v ys) (A : Option Addr) (n c lo h' : Nat) (xs : List Int) (hsl : SlA w lo h' .u32 A xs) (hn : xs.length = n) (hm : n ≤ 2000) (hy : ys.length ≤ 2000) (hb : base ≤ w.heap.size) :
    ∃ v' w', (Builtin.append_ #[t, t] ty #[v, .slice A n c]).run P w = .ok v' w' ∧ Mine w' base e .u32 v' (ys ++ xs) ∧ w.grownBy w' v.ownBlock := by
  cases A with
  | none =>
    have hx0 : xs = [] := by
      rcases hsl.2 with h | ⟨b, o, h, -⟩
      · exact h
      · cases h
    subst hx0
    exact ⟨v, w, run_nil_any base t ty e i 1 ht hi v ys.length n c hn.symm _ hown, by rw [List.append_nil]; exact hown, grown_refl _ _⟩
  | some ad =>
    obtain ⟨v', w', hr, h2, h3, -, -⟩ := run_append_own_at (P := P) (w := w) base t ty e i (.int .u32 0) 1 4 ht hi hz hsize hby rfl (by decide) v ys.length (ys.map (Value.int .u32)) hown ad n c (xs.map (Value.int .u32)) (by simp [hn]) (src_of hsl) (ones _) (by unfold maxLen; omega) (by omega) hb
    refine ⟨v', w', hr, ?_, h3⟩
    unfold Mine
    rw [List.length_append, List.map_append, hn]
    exact h2
/-- As a step of a region that draws. -/
theorem step_join {P : Program} {ops : Array Oper} {o : Oper} {a : Go.Act} {w : World} {K : Go.Act → World → Prop} {Q : Exit → Go.Act → World → Prop} {E : Prop}
    (hg : o.guard = none) (s x : Operand) (t : TypeId) (hop : o.op = Op.call { callee := Callee.builtin Builtin.append, args := #[s, x], argTypes := #[t, t] })
    (base : Nat) (e : TypeId) (i : TypeInfo) (ht : P.underlying t = some (.slice e)) (hi : P.info? e = some i) (hz : i.zero = some (.int .u32 0)) (hsize : i.size = 1) (hby : i.bytes = 4)
    (v : Value) (ys : List Int) (hs : a.eval s = v) (hown : Mine w base e .u32 v ys) (A : Option Addr) (n c lo h' : Nat) (xs : List Int) (hx : a.eval x = .slice A n c) (hsl : SlA w lo h' .u32 A xs) (hn : xs.length = n) (hm : n ≤ 2000) (hy : ys.length ≤ 2000) (hb : base ≤ w.heap.size)
    (hK : ∀ v' w', Mine w' base e .u32 v' (ys ++ xs) → w.grownBy w' v.ownBlock → K (a.put o.dst v') w') :
    if Region.wanted o (yielded ops a.tmps) = true then Oper.wp P o a w K Q else E := by
  have hw : Region.wanted o (yielded ops a.tmps) = true := by simp [Region.wanted, hg]
  rw [if_pos hw]
  obtain ⟨v', w', hr, h2, h3⟩ := run_join (P := P) base t o.type e i ht hi hz hsize hby v ys hown A n c lo h' xs hsl hn hm hy hb
  unfold Oper.wp
  simp [execOp, hop, resolve, invoke, builtin, hs, hx, hr, Result.andThen]
  exact hK _ _ h2 h3
/-- As a step of a plain region. -/
theorem wpList_join {P : Program} {w : World} {ops : Array Oper} {rest : List Oper} {o : Oper} {a : Go.Act} {Q : Exit → Go.Act → World → Prop} (hgd : o.guard = none) (s x : Operand) (t : TypeId)
    (ho : o.op = .call { callee := .builtin .append, args := #[s, x], argTypes := #[t, t] }) (base : Nat) (e : TypeId) (i : TypeInfo) (ht : P.underlying t = some (.slice e)) (hi : P.info? e = some i) (hz : i.zero = some (.int .u32 0)) (hsize : i.size = 1) (hby : i.bytes = 4)
    (v : Value) (ys : List Int) (hs : a.eval s = v) (hown : Mine w base e .u32 v ys) (A : Option Addr) (n c lo h' : Nat) (xs : List Int) (hx : a.eval x = .slice A n c) (hsl : SlA w lo h' .u32 A xs) (hn : xs.length = n) (hm : n ≤ 2000) (hy : ys.length ≤ 2000) (hb : base ≤ w.heap.size)
    (hK : ∀ v' w', Mine w' base e .u32 v' (ys ++ xs) → w.grownBy w' v.ownBlock → wpList P ops Q rest (a.put o.dst v') w') : wpList P ops Q (o :: rest) a w := by
  refine wpList_plain hgd fun K hK' => ?_
  obtain ⟨v', w', hr, h2, h3⟩ := run_join (P := P) base t o.type e i ht hi hz hsize hby v ys hown A n c lo h' xs hsl hn hm hy hb
  unfold Oper.wp
  simp [execOp, ho, resolve, invoke, builtin, hs, hx, hr, Result.andThen]
  exact hK' _ _ (hK _ _ h2 h3)
theorem _root_.Tk.Mine.fr {w w' : World} {base : Nat} {e : TypeId} {k : IntKind} {v : Value} {xs : List Int} {S : Nat → Prop} (h : Mine w base e k v xs) (g : Fr S w w') (hs : ∀ b, v.ownBlock = some b → ¬ S b) : Mine w' base e k v xs := by
  obtain ⟨hl, hr⟩ := h
  refine ⟨hl, hr.imp id ?_⟩
  rintro ⟨b, cap, cur, e, hb, hh, r⟩
  exact ⟨b, cap, cur, e, hb, (g.block b (Array.getElem?_eq_some_iff.1 hh).1 (hs b (by rw [e]; rfl))).trans hh, r⟩
theorem _root_.Tk.Mine.low {w : World} {base base' : Nat} {e : TypeId} {k : IntKind} {v : Value} {xs : List Int} (h : Mine w base e k v xs) (hb : base' ≤ base) : Mine w base' e k v xs := by
  obtain ⟨hl, hr⟩ := h
  exact ⟨hl, hr.imp id fun ⟨b, cap, cur, e, h1, r⟩ => ⟨b, cap, cur, e, Nat.le_trans hb h1, r⟩⟩
/-- The reference's thing: its rows are vr, vo. -/
structure RQ (w : World) (R : Nat) (vr vo : Value) (S : TR) : Prop where
  blk : w.heap[R]? = some (.cells #[.int .u8 S.k, .int .u32 S.a, .int .u32 S.b, .int .u32 S.n, .int .u32 S.o, vr, vo] 91 (0, 0))
  row : Mine w 0 23 .u32 vr S.rs
  own : Mine w 0 23 .u32 vo S.os
  n1 : vr.ownBlock ≠ some R
  n2 : vo.ownBlock ≠ some R
  ap : Apart vr vo
  l1 : S.rs.length ≤ 64
  l2 : S.os.length ≤ 64
def OwnQ (R : Nat) (vr vo : Value) (b : Nat) : Prop := b = R ∨ vr.ownBlock = some b ∨ vo.ownBlock = some b
variable {w w' W : World} {R : Nat} {vr vo : Value} {S : TR}
theorem RQ.fr {Z : Nat → Prop} (h : RQ w R vr vo S) (g : Fr Z w w') (hs : ∀ b, OwnQ R vr vo b → ¬ Z b) : RQ w' R vr vo S :=
  ⟨(g.block R (Array.getElem?_eq_some_iff.1 h.blk).1 (hs R (.inl rfl))).trans h.blk, h.row.fr g (fun b hb => hs b (.inr (.inl hb))), h.own.fr g (fun b hb => hs b (.inr (.inr hb))), h.n1, h.n2, h.ap, h.l1, h.l2⟩
theorem RQ.keep (h : RQ w R vr vo S) (g : w.grownBy w' none) : RQ w' R vr vo S := h.fr (Z := fun _ => False) (Fr.of_grown g (by simp)) (fun _ _ => id)
theorem RQ.lt (h : RQ w R vr vo S) : ∀ b, OwnQ R vr vo b → b < w.heap.size := by
  rintro b (rfl | e | e)
  · exact (Array.getElem?_eq_some_iff.1 h.blk).1
  · exact (World.ownsRow.lt h.row b e).2
  · exact (World.ownsRow.lt h.own b e).2
theorem RQ.c0 (h : RQ w R vr vo S) : w.cell? ⟨R, 0, none⟩ = some (.int .u8 S.k) := cell_of h.blk rfl
theorem RQ.c1 (h : RQ w R vr vo S) : w.cell? ⟨R, 1, none⟩ = some (.int .u32 S.a) := cell_of h.blk rfl
theorem RQ.c2 (h : RQ w R vr vo S) : w.cell? ⟨R, 2, none⟩ = some (.int .u32 S.b) := cell_of h.blk rfl
theorem RQ.c3 (h : RQ w R vr vo S) : w.cell? ⟨R, 3, none⟩ = some (.int .u32 S.n) := cell_of h.blk rfl
theorem RQ.c4 (h : RQ w R vr vo S) : w.cell? ⟨R, 4, none⟩ = some (.int .u32 S.o) := cell_of h.blk rfl
theorem RQ.c5 (h : RQ w R vr vo S) : w.cell? ⟨R, 5, none⟩ = some vr := cell_of h.blk rfl
theorem RQ.c6 (h : RQ w R vr vo S) : w.cell? ⟨R, 6, none⟩ = some vo := cell_of h.blk rfl
theorem RQ.fz (h : RQ w R vr vo S) (i : Nat) : w.frozen? ⟨R, i, none⟩ = false := frozen_of h.blk
/-- What a step leaves. -/
def Post (w : World) (R : Nat) (vr vo : Value) (S' : TR) (w' : World) : Prop := ∃ vr' vo', RQ w' R vr' vo' S' ∧ Fr (OwnQ R vr vo) w w' ∧ ∀ b, OwnQ R vr' vo' b → OwnQ R vr vo b ∨ w.heap.size ≤ b
theorem RQ.same (h : RQ w R vr vo S) (g : w.grownBy w' none) : Post w R vr vo S w' := ⟨vr, vo, h.keep g, Fr.of_grown g (by simp), fun b hb => .inl hb⟩
theorem heap_set {w : World} {b : Nat} {cs : Array Value} {t : TypeId} {r : Nat × Nat} (i : Nat) (v : Value) (h : w.heap[b]? = some (.cells cs t r)) : (w.setCell ⟨b, i, none⟩ v).heap[b]? = some (.cells (cs.setIfInBounds i v) t r) := by
  obtain ⟨hlt, hk'⟩ := Array.getElem?_eq_some_iff.1 h
  show (w.heap.modify b _)[b]? = _
  rw [Array.getElem?_eq_getElem (by rw [Array.size_modify]; exact hlt), Array.getElem_modify_self, hk']
  rfl
theorem RQ.postN (h : RQ W R vr vo S) (g : w.grownBy W none) (x : Int) : Post w R vr vo { S with n := x } (W.setCell ⟨R, 3, none⟩ (.int .u32 x)) := by
  have gS := grownBy_setCell W R 3 (.int .u32 x)
  exact ⟨vr, vo, ⟨heap_set 3 _ h.blk, h.row.kept gS (.inr h.n1), h.own.kept gS (.inr h.n2), h.n1, h.n2, h.ap, h.l1, h.l2⟩, (Fr.of_grown g (by simp)).trans (Fr.of_grown gS (fun k e _ => by cases e; exact .inl rfl)), fun b hb => .inl hb⟩
theorem RQ.postO (h : RQ W R vr vo S) (g : w.grownBy W none) (x : Int) : Post w R vr vo { S with o := x } (W.setCell ⟨R, 4, none⟩ (.int .u32 x)) := by
  have gS := grownBy_setCell W R 4 (.int .u32 x)
  exact ⟨vr, vo, ⟨heap_set 4 _ h.blk, h.row.kept gS (.inr h.n1), h.own.kept gS (.inr h.n2), h.n1, h.n2, h.ap, h.l1, h.l2⟩, (Fr.of_grown g (by simp)).trans (Fr.of_grown gS (fun k e _ => by cases e; exact .inl rfl)), fun b hb => .inl hb⟩
/-- A new row is put into the thing. -/
theorem RQ.postR (h : RQ w R vr vo S) (g : w.grownBy W none) {u : Value} {rs' : List Int} (hu : Mine W w.heap.size 23 .u32 u rs') (hl : rs'.length ≤ 64) : Post w R vr vo { S with rs := rs' } (W.setCell ⟨R, 5, none⟩ u) := by
  have hW := h.keep g
  have gS := grownBy_setCell W R 5 u
  have hlt : ∀ b, u.ownBlock = some b → w.heap.size ≤ b := fun b hb => (World.ownsRow.lt hu b hb).1
  have hRl := h.lt R (.inl rfl)
  have hn : u.ownBlock ≠ some R := fun e => by have := hlt R e; omega
  refine ⟨u, vo, ⟨heap_set 5 _ hW.blk, (hu.low (Nat.zero_le _)).kept gS (.inr hn), hW.own.kept gS (.inr h.n2), hn, h.n2, ?_, hl, h.l2⟩, (Fr.of_grown g (by simp)).trans (Fr.of_grown gS (fun k e _ => by cases e; exact .inl rfl)), ?_⟩
  · rcases e : u.ownBlock with _ | b
    · exact .inl e
    · right; rw [e]; intro e2; have := hlt b e; have := h.lt b (.inr (.inr e2.symm)); omega
  · rintro b (rfl | e | e)
    · exact .inl (.inl rfl)
    · exact .inr (hlt b e)
    · exact .inl (.inr (.inr e))
/-- The owners' row. -/
theorem RQ.openO (h : RQ w R vr vo S) {n : Nat} (hn : S.os.length = n) : ∃ A c, vo = .slice A n c ∧ n ≤ c ∧ c ≤ maxLen ∧ SlA w 0 w.heap.size .u32 A S.os ∧ (n = 0 ∨ ∃ M, A = some ⟨M, 0, none⟩ ∧ (∀ i, i < n → w.cell? ⟨M, i, none⟩ = some (.int .u32 (gd S.os i))) ∧ ∀ i, w.frozen? ⟨M, i, none⟩ = false) := by
  subst hn
  obtain ⟨A, c, rfl, h1, h2, h3⟩ := h.own.form
  refine ⟨A, c, rfl, h1, h2, h.own.sl, ?_⟩
  rcases h3 with ⟨rfl, h3⟩ | ⟨M, rfl, -, -⟩
  · left; rw [h3]; rfl
  · exact .inr ⟨M, rfl, fun i hi => h.own.cell hi, fun i => h.own.frozen i⟩
theorem RQ.openR (h : RQ w R vr vo S) {n : Nat} (hn : S.rs.length = n) : ∃ A c, vr = .slice A n c ∧ n ≤ c ∧ c ≤ maxLen ∧ SlA w 0 w.heap.size .u32 A S.rs ∧ (n = 0 ∨ ∃ M, A = some ⟨M, 0, none⟩ ∧ (∀ i, i < n → w.cell? ⟨M, i, none⟩ = some (.int .u32 (gd S.rs i)))) := by
  subst hn
  obtain ⟨A, c, rfl, h1, h2, h3⟩ := h.row.form
  refine ⟨A, c, rfl, h1, h2, h.row.sl, ?_⟩
  rcases h3 with ⟨rfl, h3⟩ | ⟨M, rfl, -, -⟩
  · left; rw [h3]; rfl
  · exact .inr ⟨M, rfl, fun i hi => h.row.cell hi⟩
/-- One owner is written. -/
theorem RQ.setO {M n c : Nat} (h : RQ w R vr (.slice (some ⟨M, 0, none⟩) n c) S) (i : Nat) (x : Int) : RQ (w.setCell ⟨M, i, none⟩ (.int .u32 x)) R vr (.slice (some ⟨M, 0, none⟩) n c) { S with os := S.os.set i x } := by
  have gS := grownBy_setCell w M i (.int .u32 x)
  have hne : M ≠ R := fun e => h.n2 (by rw [e]; rfl)
  have hn : n = S.os.length := by obtain ⟨A, c', e', _⟩ := h.own.form; cases e'; rfl
  refine ⟨(gS.block R (h.lt R (.inl rfl)) (by simpa using fun e => hne e.symm)).trans h.blk, h.row.kept gS ?_, h.own.set i x, h.n1, h.n2, h.ap, h.l1, by show (S.os.set i x).length ≤ 64; rw [List.length_set]; exact h.l2⟩
  rcases h.ap with e | e
  · exact .inl e
  · exact .inr e
theorem RQ.postW {M n c : Nat} (h : RQ W R vr (.slice (some ⟨M, 0, none⟩) n c) S) (g : w.grownBy W none) (i : Nat) (x : Int) : Post w R vr (.slice (some ⟨M, 0, none⟩) n c) { S with os := S.os.set i x } (W.setCell ⟨M, i, none⟩ (.int .u32 x)) :=
  ⟨_, _, h.setO i x, (Fr.of_grown g (by simp)).trans (Fr.of_grown (grownBy_setCell W M i (.int .u32 x)) (fun k e _ => by cases e; exact .inr (.inr rfl))), fun b hb => .inl hb⟩
end RefO
end Go.Proofs.YtneamjaglgnmkaaGreatDoor
