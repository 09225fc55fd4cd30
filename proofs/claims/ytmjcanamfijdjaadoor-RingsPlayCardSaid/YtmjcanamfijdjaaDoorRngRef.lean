/- timekeeperref07: the reference's ring. -/
import Derived.Test.YtmjcanamfijdjaaDoorRing5
import Derived.Test.YtmjcanamfijdjaaDoorOwnO
import Derived.BigQuiet
namespace Go.Proofs.YtmjcanamfijdjaaDoor
open Go.RowKit Go.Shelf Tk
set_option linter.unusedVariables false
set_option linter.unusedSimpArgs false
namespace RefG
theorem src_of {w : World} {lo hi : Nat} {k : IntKind} {ad : Addr} {xs : List Int} (h : SlA w lo hi k (some ad) xs) : ∀ j u, (xs.map (Value.int k))[j]? = some u → w.cell? (ad.add j) = some u := by
  intro j u hu
  have hj : j < xs.length := by
    by_cases hj : j < xs.length
    · exact hj
    · rw [List.getElem?_eq_none (by simpa using hj)] at hu; cases hu
  rcases h.2 with h' | ⟨b, o, hA, -⟩
  · rw [h'] at hj; simp at hj
  · cases hA
    have e0 : ((⟨b, o, none⟩ : Addr).add j) = ⟨b, o + j, none⟩ := by
      unfold Addr.add; by_cases hi0 : j = 0 <;> simp [hi0]
    rw [e0, h.cell hj, gd_lt hj]
    rw [List.getElem?_map, List.getElem?_eq_getElem hj] at hu
    exact hu
theorem run_nil_any {P : Program} {w : World} (base : Nat) (t ty e : TypeId) (i : TypeInfo) (size : Nat) (ht : P.underlying t = some (.slice e)) (hi : P.info? e = some i)
    (v : Value) (n m c : Nat) (hm : m = 0) (xs : List Value) (hown : w.ownsRow base e size v n xs) :
    (Builtin.append_ #[t, t] ty #[v, .slice none m c]).run P w = .ok v w := by
  subst hm
  rcases hown.2 with ⟨rfl, rfl⟩ | ⟨g, cap, cur, rfl, _, _, hnc, _⟩
  · simp [Builtin.append_, run_underlying ht, sizeOf, typeInfo, hi, Builtin.lenOf, Builtin.firstCells]
  · simp [Builtin.append_, run_underlying ht, sizeOf, typeInfo, hi, Builtin.lenOf, Builtin.firstCells, hnc, storeCells]
theorem ones (xs : List Int) : ∀ u ∈ xs.map (Value.int .i64), u.oneCell' = true := by
  intro u hu
  rw [List.mem_map] at hu
  obtain ⟨y, -, rfl⟩ := hu
  rfl
/-- A whole list behind a row of the call's own. -/
theorem wpList_join {P : Program} {w : World} {ops : Array Oper} {rest : List Oper} {o : Oper} {a : Act} {Q : Exit → Act → World → Prop} (hgd : o.guard = none) (s x : Operand) (t : TypeId)
    (ho : o.op = .call { callee := .builtin .append, args := #[s, x], argTypes := #[t, t] }) (base : Nat) (e : TypeId) (i : TypeInfo) (ht : P.underlying t = some (.slice e)) (hi : P.info? e = some i) (hz : i.zero = some (.int .i64 0)) (hz1 : i.size = 1) (hz2 : i.bytes = 8)
    (v : Value) (ys : List Int) (A : Option Addr) (n c lo h' : Nat) (xs : List Int) (hs : a.eval s = v) (hown : Mine w base e .i64 v ys) (hx : a.eval x = .slice A n c) (hsl : SlA w lo h' .i64 A xs) (hn : xs.length = n) (hm : n ≤ 2000) (hy : ys.length ≤ 2000) (hb : base ≤ w.heap.size)
    (hK : ∀ v w', Mine w' base e .i64 v (ys ++ xs) → (∃ r, w.grownBy w' r ∧ ∀ b, r = some b → base ≤ b) → wpList P ops Q rest (a.put o.dst v) w') : wpList P ops Q (o :: rest) a w := by
  cases A with
  | none =>
    have hx0 : xs = [] := by
      rcases hsl.2 with h | ⟨b, o, h, -⟩
      · exact h
      · cases h
    subst hx0
    refine wpList_plain hgd fun K hK' => ?_
    have hrun := run_nil_any (P := P) (w := w) base t o.type e i 1 ht hi v ys.length n c hn.symm _ hown
    unfold Oper.wp
    simp [execOp, ho, resolve, invoke, builtin, hs, hx, hrun, Result.andThen]
    exact hK' _ _ (hK _ _ (by rw [List.append_nil]; exact hown) ⟨none, grown_refl _ _, by simp⟩)
  | some ad =>
    refine wpList_append_own w hgd s x t ho base e i (.int .i64 0) 1 8 ht hi hz hz1 hz2 rfl (by decide) v ys.length (ys.map (Value.int .i64)) hs hown ad n c (xs.map (Value.int .i64)) hx (by simp [hn]) (src_of hsl) (ones _) (by unfold maxLen; omega) (by omega) hb ?_
    intro v' w2 hown2 hgrow _
    refine hK v' w2 ?_ ⟨v.ownBlock, hgrow, fun b hb => (World.ownsRow.lt hown b hb).1⟩
    unfold Mine
    rw [List.length_append, List.map_append, hn]
    exact hown2
theorem _root_.Tk.MineO.blk {w w' : World} {base : Nat} {k : IntKind} {v : Value} {xs : List Int} (h : MineO w base k v xs) (hs : w.heap.size ≤ w'.heap.size) (hb : ∀ b, v.ownBlock = some b → w'.heap[b]? = w.heap[b]?) : MineO w' base k v xs := by
  obtain ⟨b, o, c, rfl, h1, h2, h3, h4, h5, h6⟩ := h
  have hb := hb b rfl
  refine ⟨b, o, c, rfl, h1, Nat.lt_of_lt_of_le h2 hs, h3, h4, fun j hj => ?_, fun j hj => ?_⟩
  · rw [World.cell?_of_block (w := w) hb, World.frozen?_of_block (w := w) hb]; exact h5 j hj
  · rw [World.cell?_of_block (w := w) hb]; exact h6 j hj
theorem _root_.Tk.MineO.lt {w : World} {base : Nat} {k : IntKind} {v : Value} {xs : List Int} (h : MineO w base k v xs) : ∀ b, v.ownBlock = some b → b < w.heap.size := by
  obtain ⟨b, o, c, rfl, h1, h2, -⟩ := h
  intro k hk; cases hk; exact h2
/-- append of one number, wherever the slice begins; which block it writes. -/
theorem wpList_append_o {P : Program} (w : World) {ops : Array Oper} {rest : List Oper} {o : Oper} {a : Act} {Q : Exit → Act → World → Prop}
    (hg : o.guard = none) (s x : Operand) (t : TypeId) (hop : o.op = Op.call { callee := Callee.builtin Builtin.append, args := #[s, x], argTypes := #[t, t] })
    (e : TypeId) (i : TypeInfo) (h1 : P.underlying t = some (.slice e)) (h2 : P.info? e = some i) (h3 : i.zero = some (.int .i64 0)) (h4 : i.size = 1) (h5 : i.bytes = 8)
    (v : Value) (xs : List Int) (hs : a.eval s = v) (hM : MineO w 0 .i64 v xs) (ad : Addr) (c : Nat) (y : Int) (hx : a.eval x = .slice (some ad) 1 c) (hc : ∀ j u, [Value.int .i64 y][j]? = some u → w.cell? (ad.add j) = some u)
    (b1 : xs.length ≤ 2000)
    (hK : ∀ v' w', MineO w' 0 .i64 v' (xs ++ [y]) → w.grownBy w' v.ownBlock → (∀ b, v'.ownBlock = some b → v.ownBlock = some b ∨ w.heap.size ≤ b) → wpList P ops Q rest (a.put o.dst v') w') :
    wpList P ops Q (o :: rest) a w := by
  obtain ⟨b, off, cap, rfl, g1, g2, g3, g4, g5, g6⟩ := hM
  refine wpList_append_arg w hg s x t hop e i (.int .i64 0) 1 8 h1 h2 h3 h4 h5 rfl (by decide) b off xs.length cap (xs.map (Value.int .i64)) hs (by simp) ?_ ad 1 c [Value.int .i64 y] hx rfl hc (by simp [Value.oneCell']) ?_ (by unfold maxLen; omega) (by omega) ?_ ?_
  · intro j u hu
    have hj : j < xs.length := by
      by_cases hj : j < xs.length
      · exact hj
      · rw [List.getElem?_eq_none (by simpa using hj)] at hu; cases hu
    rw [g6 j hj, gd_lt hj]
    rw [List.getElem?_map, List.getElem?_eq_getElem hj] at hu
    exact hu
  · intro hroom j hj
    have : j = 0 := by simp at hj; omega
    subst this
    have := g5 xs.length (by omega)
    simpa using this
  · intro hroom
    refine hK _ _ ⟨b, off, cap, by simp, g1, ?_, by simpa using hroom, g4, fun j hj => ?_, fun j hj => ?_⟩ (grownBy_setCell w b (off + xs.length * 1) (.int .i64 y)) (fun k hk => .inl hk)
    · show b < (w.heap.modify _ _).size
      simpa using g2
    · by_cases e1 : j = xs.length
      · subst e1
        refine ⟨?_, ?_⟩
        · have := World.cell?_setCells_in b [Value.int .i64 y] (off + xs.length * 1) w (fun q hq => by
            have : q = 0 := by simp at hq; omega
            subst this; simpa using (g5 xs.length hj).1) 0 (by simp)
          have e2 : off + xs.length * 1 + 0 = off + xs.length := by omega
          rw [e2] at this
          rw [this]; rfl
        · rw [World.frozen?_setCells]; exact (g5 _ hj).2
      · rw [World.frozen?_setCells, World.cell?_setCells_out b [Value.int .i64 y] (off + xs.length * 1) w ⟨b, off + j, none⟩ (fun _ _ => by simp; omega)]
        exact g5 j hj
    · simp only [List.length_append, List.length_singleton] at hj
      by_cases e1 : j = xs.length
      · subst e1
        have := World.cell?_setCells_in b [Value.int .i64 y] (off + xs.length * 1) w (fun q hq => by
          have : q = 0 := by simp at hq; omega
          subst this; simpa using (g5 xs.length (by omega)).1) 0 (by simp)
        have e2 : off + xs.length * 1 + 0 = off + xs.length := by omega
        rw [e2] at this
        rw [this]; simp [gd]
      · rw [World.cell?_setCells_out b [Value.int .i64 y] (off + xs.length * 1) w ⟨b, off + j, none⟩ (fun _ _ => by simp; omega), g6 j (by omega)]
        unfold gd; rw [List.getElem?_append_left (by omega)]
  · intro hgrow v' w' hown hgr
    have hM' : Mine w' w.heap.size e .i64 v' (xs ++ [y]) := Mine.add (by simpa using hown)
    obtain ⟨g, c', rfl, q1, q2, q3, q4⟩ := hM'.snoc
    have hlt := q3.lt
    have := MineO.of q3
    obtain ⟨b', o', c'', e1, r1, r2, r3, r4, r5, r6⟩ := this
    refine hK _ _ ⟨b', o', c'', e1, Nat.zero_le _, r2, r3, r4, r5, r6⟩ ⟨hgr.os, hgr.tape, hgr.output, hgr.size, fun k hk _ => hgr.block k hk (by simp)⟩ (fun k hk => .inr ?_)
    cases hk; exact hlt.1
/-- The slice of the reference's queue. -/
def QS (w : World) (v : Value) (ms : List Int) : Prop := v = .slice none 0 0 ∧ ms = [] ∨ MineO w 0 .i64 v ms
theorem QS.form {w : World} {v : Value} {ms : List Int} (h : QS w v ms) : ∃ A c, v = .slice A ms.length c ∧ SlA w 0 w.heap.size .i64 A ms := by
  rcases h with ⟨rfl, rfl⟩ | h
  · exact ⟨none, 0, rfl, Nat.le_refl _, .inl rfl⟩
  · obtain ⟨b, o, c, rfl, h1, h2, h3⟩ := h
    exact ⟨_, c, rfl, MineO.sl ⟨b, o, c, rfl, h1, h2, h3⟩⟩
/-- append of one number onto such a slice. -/
theorem wpList_append_qs {P : Program} (w : World) {ops : Array Oper} {rest : List Oper} {o : Oper} {a : Act} {Q : Exit → Act → World → Prop}
    (hg : o.guard = none) (s x : Operand) (t : TypeId) (hop : o.op = Op.call { callee := Callee.builtin Builtin.append, args := #[s, x], argTypes := #[t, t] })
    (e : TypeId) (i : TypeInfo) (h1 : P.underlying t = some (.slice e)) (h2 : P.info? e = some i) (h3 : i.zero = some (.int .i64 0)) (h4 : i.size = 1) (h5 : i.bytes = 8)
    (v : Value) (xs : List Int) (hs : a.eval s = v) (hM : QS w v xs) (ad : Addr) (c : Nat) (y : Int) (hx : a.eval x = .slice (some ad) 1 c) (hc : ∀ j u, [Value.int .i64 y][j]? = some u → w.cell? (ad.add j) = some u)
    (b1 : xs.length ≤ 2000)
    (hK : ∀ v' w', QS w' v' (xs ++ [y]) → w.grownBy w' v.ownBlock → (∀ b, v'.ownBlock = some b → v.ownBlock = some b ∨ w.heap.size ≤ b) → wpList P ops Q rest (a.put o.dst v') w') :
    wpList P ops Q (o :: rest) a w := by
  rcases hM with ⟨rfl, rfl⟩ | hM
  · refine wpList_append_own w hg s x t hop w.heap.size e i (.int .i64 0) 1 8 h1 h2 h3 h4 h5 rfl (by decide) (.slice none 0 0) 0 [] hs (World.ownsRow_nil _ _ _ _) ad 1 c [.int .i64 y] hx rfl hc (by simp [Value.oneCell']) (by decide) (by decide) (Nat.le_refl _) ?_
    intro v' w5 hown hgrow _
    have hM5 : Mine w5 w.heap.size e .i64 v' ([] ++ [y]) := Mine.add (xs := []) hown
    obtain ⟨g5, k5, rfl, -, -, hM6, hgb⟩ := hM5.snoc
    obtain ⟨b', o', c'', e1, r1, r2, r3, r4, r5, r6⟩ := MineO.of hM6
    exact hK _ w5 (.inr ⟨b', o', c'', e1, Nat.zero_le _, r2, r3, r4, r5, r6⟩) hgrow (fun b hb => .inr (by cases hb; exact hgb))
  · exact wpList_append_o w hg s x t hop e i h1 h2 h3 h4 h5 v xs hs hM ad c y hx hc b1 fun v' w' hM' => hK v' w' (.inr hM')
theorem QS.fr {S : Nat → Prop} {w w' : World} {v : Value} {ms : List Int} (h : QS w v ms) (g : Fr S w w') (hs : ∀ b, v.ownBlock = some b → ¬ S b) : QS w' v ms :=
  h.imp id fun hM => hM.blk g.size (fun b hb => g.block b (hM.lt b hb) (hs b hb))
theorem QS.keep {w w' : World} {v : Value} {ms : List Int} (h : QS w v ms) (g : w.grownBy w' none) : QS w' v ms := h.fr (S := fun _ => False) (Fr.of_grown g (by simp)) (fun _ _ => id)
def rqv (v : Value) (m : Nat) (i : Nat) : Value := if i = 0 then v else .int .i64 m
structure RQ (w : World) (R m : Nat) (v : Value) (ms : List Int) : Prop where
  hdr : Arr w R 2 (rqv v m)
  sl : QS w v ms
  ne : v.ownBlock ≠ some R
def OwnQ (R : Nat) (v : Value) (k : Nat) : Prop := k = R ∨ v.ownBlock = some k
variable {w w' : World} {R m : Nat} {v : Value} {ms : List Int}
theorem RQ.fr {S : Nat → Prop} (h : RQ w R m v ms) (g : Fr S w w') (hs : ∀ k, OwnQ R v k → ¬ S k) : RQ w' R m v ms := by
  refine ⟨h.hdr.fr g (hs _ (.inl rfl)), h.sl.imp id fun hM => ?_, h.ne⟩
  exact hM.blk g.size (fun b hb => g.block b (hM.lt b hb) (hs b (.inr hb)))
theorem RQ.keep (h : RQ w R m v ms) (g : w.grownBy w' none) : RQ w' R m v ms := h.fr (S := fun _ => False) (Fr.of_grown g (by simp)) (fun _ _ => id)
theorem RQ.lt (h : RQ w R m v ms) : ∀ k, OwnQ R v k → k < w.heap.size := by
  rintro k (rfl | e)
  · exact h.hdr.lt
  · rcases h.sl with ⟨rfl, -⟩ | hM
    · cases e
    · exact hM.lt k e
theorem RQ.c0 (h : RQ w R m v ms) : w.cell? ⟨R, 0, none⟩ = some v := h.hdr.cell (i := 0) (by decide)
theorem RQ.c1 (h : RQ w R m v ms) : w.cell? ⟨R, 1, none⟩ = some (.int .i64 m) := h.hdr.cell (i := 1) (by decide)
/-- A new slice is put into the queue. -/
theorem RQ.put (h : RQ w R m v ms) {w5 : World} (S : Nat → Prop) (hS : ¬ S R) (g : Fr S w w5) {v' : Value} {ms' : List Int} (hs : QS w5 v' ms') (hat : v'.ownBlock ≠ some R) : RQ (w5.setCell ⟨R, 0, none⟩ v') R m v' ms' := by
  have hA := (h.hdr.fr g hS).set (k := 0) (by decide) v'
  refine ⟨hA.congr fun i hi => ?_, hs.imp id fun hM => ?_, hat⟩
  · unfold rqv
    by_cases e : i = 0
    · rw [if_pos e, if_pos e]
    · rw [if_neg e, if_neg e, if_neg e]
  · have gS := grownBy_setCell w5 R 0 v'
    exact hM.blk gS.size (fun b hb => gS.block b (hM.lt b hb) (fun e => hat (by rw [hb]; exact e)))
/-- What put and push leave. -/
def Post (w : World) (R m : Nat) (v : Value) (ms' : List Int) (w' : World) : Prop := ∃ v', RQ w' R m v' ms' ∧ Fr (OwnQ R v) w w' ∧ ∀ b, v'.ownBlock = some b → v.ownBlock = some b ∨ w.heap.size ≤ b
theorem fin {w W w5 : World} {R m : Nat} {v v' : Value} {ms ms' : List Int} (h : RQ W R m v ms) (hF : Fr (OwnQ R v) w W) (hs : QS w5 v' ms') (hg : W.grownBy w5 v.ownBlock) (hat : ∀ b, v'.ownBlock = some b → v.ownBlock = some b ∨ W.heap.size ≤ b) :
    w5.cell? ⟨R, 0, none⟩ = some v ∧ w5.frozen? ⟨R, 0, none⟩ = false ∧ Post w R m v ms' (w5.setCell ⟨R, 0, none⟩ v') := by
  have hh := h.hdr.kept hg h.ne
  have hatR : v'.ownBlock ≠ some R := fun e => by
    rcases hat R e with h1 | h1
    · exact h.ne h1
    · have := h.hdr.lt; omega
  have fg : Fr (fun k => v.ownBlock = some k) W w5 := Fr.of_grown hg (fun k e _ => e)
  refine ⟨hh.cell (i := 0) (by decide), hh.frozen 0, v', h.put _ h.ne fg hs hatR, ?_, fun b hb => ?_⟩
  · exact (hF.trans (fg.mono fun k _ hk => .inr hk)).trans (Fr.of_grown (grownBy_setCell w5 R 0 v') (fun k e _ => by cases e; exact .inl rfl))
  · rcases hat b hb with h1 | h1
    · exact .inl h1
    · exact .inr (Nat.le_trans hF.size h1)
theorem one_row (W : World) (x : Int) (T : TypeId) : Mine (W.alloc (.cells #[.int .i64 x] T)) W.heap.size T .i64 (.slice (some ⟨W.heap.size, 0, none⟩) 1 1) [x] := by
  refine ⟨rfl, .inr ⟨W.heap.size, 1, #[.int .i64 x], rfl, Nat.le_refl _, _root_.Go.heap_alloc_new W _, Nat.le_refl _, by decide, rfl, rfl⟩⟩
theorem qs_of_mine {w : World} {base : Nat} {T : TypeId} {v : Value} {ms : List Int} (hs : Mine w base T .i64 v ms) : QS w v ms := by
  have hs' := hs
  obtain ⟨hl, h2⟩ := hs'
  rcases h2 with ⟨rfl, h0⟩ | ⟨g, cap, cur, rfl, hg, hh, hx⟩
  · exact .inl ⟨rfl, List.length_eq_zero_iff.1 h0⟩
  · obtain ⟨b', o', c'', e1, r1, r2, r3, r4, r5, r6⟩ := MineO.of hs
    exact .inr ⟨b', o', c'', e1, Nat.zero_le _, r2, r3, r4, r5, r6⟩
/-- A list of the call's own is put into the ring. -/
theorem fin3 {w W w5 : World} {R m : Nat} {v v' : Value} {ms ms' : List Int} {T : TypeId} (h : RQ W R m v ms) (hF : Fr (OwnQ R v) w W) (hs : Mine w5 W.heap.size T .i64 v' ms') (hg : W.grownBy w5 none) :
    w5.cell? ⟨R, 0, none⟩ = some v ∧ w5.frozen? ⟨R, 0, none⟩ = false ∧ Post w R m v ms' (w5.setCell ⟨R, 0, none⟩ v') := by
  have hRl := h.hdr.lt
  have hh := h.hdr.kept hg (by simp)
  have hlt : ∀ b, v'.ownBlock = some b → W.heap.size ≤ b := fun b hb => (World.ownsRow.lt hs b hb).1
  have hatR : v'.ownBlock ≠ some R := fun e => by have := hlt R e; omega
  have fg : Fr (fun _ => False) W w5 := Fr.of_grown hg (by simp)
  refine ⟨hh.cell (i := 0) (by decide), hh.frozen 0, v', h.put _ (by simp) fg (qs_of_mine hs) hatR, ?_, fun b hb => .inr (Nat.le_trans hF.size (hlt b hb))⟩
  exact (hF.trans (fg.mono fun k _ hk => hk.elim)).trans (Fr.of_grown (grownBy_setCell w5 R 0 v') (fun k e _ => by cases e; exact .inl rfl))
theorem RQ.same (h : RQ w R m v ms) (g : w.grownBy w' none) : Post w R m v ms w' := ⟨v, h.keep g, Fr.of_grown g (by simp), fun b hb => .inl hb⟩
theorem grown_owns {w w5 : World} {r : Option Nat} {base : Nat} (hg : w.grownBy w5 r) (hr : ∀ b, r = some b → base ≤ b) (hb : w.heap.size ≤ base) : w.grownBy w5 none :=
  ⟨hg.os, hg.tape, hg.output, hg.size, fun k hk _ => hg.block k hk (fun e => by have := hr k e.symm; omega)⟩
end RefG
end Go.Proofs.YtmjcanamfijdjaaDoor
