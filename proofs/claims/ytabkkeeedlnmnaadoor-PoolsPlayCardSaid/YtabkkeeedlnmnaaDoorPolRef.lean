/- timekeeperref05: the reference's pool. -/
import Derived.Test.YtabkkeeedlnmnaaDoorPool3
import Derived.BigQuiet
namespace Go.Proofs.YtabkkeeedlnmnaaDoor
open Go.RowKit Go.Shelf Tk
set_option linter.unusedVariables false
set_option linter.unusedSimpArgs false
namespace RefP
theorem src_of {w : World} {lo hi : Nat} {k : IntKind} {ad : Addr} {xs : List Int} (h : SlA w lo hi k (some ad) xs) : ∀ j u, (xs.map (Value.int k))[j]? = some u → w.cell? (ad.add j) = some u := by
  intro j u hu
  have hj : j < xs.length := by
    by_cases hj : j < xs.length
    · exact hj
    · rw [List.getElem?_eq_none (by simpa using hj)] at hu; cases hu
  rcases h.2 with h' | ⟨b, o, hA, -⟩
  · rw [h'] at hj; simp at hj
  · cases hA
    have e0 : ((⟨b, o, none⟩ : Addr).add j) = ⟨b, o + j, none⟩ := by
      unfold Addr.add; by_cases hi0 : j = 0 <;> simp [hi0]
    rw [e0, h.cell hj, gd_lt hj]
    rw [List.getElem?_map, List.getElem?_eq_getElem hj] at hu
    exact hu
theorem run_nil_any {P : Program} {w : World} (base : Nat) (t ty e : TypeId) (i : TypeInfo) (size : Nat) (ht : P.underlying t = some (.slice e)) (hi : P.info? e = some i)
    (v : Value) (n m c : Nat) (hm : m = 0) (xs : List Value) (hown : w.ownsRow base e size v n xs) :
    (Builtin.append_ #[t, t] ty #[v, .slice none m c]).run P w = .ok v w := by
  subst hm
  rcases hown.2 with ⟨rfl, rfl⟩ | ⟨g, cap, cur, rfl, _, _, hnc, _⟩
  · simp [Builtin.append_, run_underlying ht, sizeOf, typeInfo, hi, Builtin.lenOf, Builtin.firstCells]
  · simp [Builtin.append_, run_underlying ht, sizeOf, typeInfo, hi, Builtin.lenOf, Builtin.firstCells, hnc, storeCells]
theorem ones (xs : List Int) : ∀ u ∈ xs.map (Value.int .u32), u.oneCell' = true := by
  intro u hu
  rw [List.mem_map] at hu
  obtain ⟨y, -, rfl⟩ := hu
  rfl
/-- A whole list behind a row of the call's own. -/
theorem wpList_join {P : Program} {w : World} {ops : Array Oper} {rest : List Oper} {o : Oper} {a : Act} {Q : Exit → Act → World → Prop} (hgd : o.guard = none) (s x : Operand) (t : TypeId)
    (ho : o.op = .call { callee := .builtin .append, args := #[s, x], argTypes := #[t, t] }) (base : Nat) (e : TypeId) (i : TypeInfo) (ht : P.underlying t = some (.slice e)) (hi : P.info? e = some i) (hz : i.zero = some (.int .u32 0)) (hz1 : i.size = 1) (hz2 : i.bytes = 4)
    (v : Value) (ys : List Int) (A : Option Addr) (n c lo h' : Nat) (xs : List Int) (hs : a.eval s = v) (hown : Mine w base e .u32 v ys) (hx : a.eval x = .slice A n c) (hsl : SlA w lo h' .u32 A xs) (hn : xs.length = n) (hm : n ≤ 1000) (hy : ys.length ≤ 1000) (hb : base ≤ w.heap.size)
    (hK : ∀ v w', Mine w' base e .u32 v (ys ++ xs) → (∃ r, w.grownBy w' r ∧ ∀ b, r = some b → base ≤ b) → wpList P ops Q rest (a.put o.dst v) w') : wpList P ops Q (o :: rest) a w := by
  cases A with
  | none =>
    have hx0 : xs = [] := by
      rcases hsl.2 with h | ⟨b, o, h, -⟩
      · exact h
      · cases h
    subst hx0
    refine wpList_plain hgd fun K hK' => ?_
    have hrun := run_nil_any (P := P) (w := w) base t o.type e i 1 ht hi v ys.length n c hn.symm _ hown
    unfold Oper.wp
    simp [execOp, ho, resolve, invoke, builtin, hs, hx, hrun, Result.andThen]
    exact hK' _ _ (hK _ _ (by rw [List.append_nil]; exact hown) ⟨none, grown_refl _ _, by simp⟩)
  | some ad =>
    refine wpList_append_own w hgd s x t ho base e i (.int .u32 0) 1 4 ht hi hz hz1 hz2 rfl (by decide) v ys.length (ys.map (Value.int .u32)) hs hown ad n c (xs.map (Value.int .u32)) hx (by simp [hn]) (src_of hsl) (ones _) (by unfold maxLen; omega) (by omega) hb ?_
    intro v' w2 hown2 hgrow _
    refine hK v' w2 ?_ ⟨v.ownBlock, hgrow, fun b hb => (World.ownsRow.lt hown b hb).1⟩
    unfold Mine
    rw [List.length_append, List.map_append, hn]
    exact hown2
/-- The reference's pool: the slice v has the owners. -/
structure RQ (w : World) (R m : Nat) (v : Value) (os : List Int) : Prop where
  hdr : Arr w R 1 (fun _ => v)
  row : Mine w 0 22 .u32 v os
  sh : ∃ M, v = .slice (some ⟨M, 0, none⟩) os.length os.length
  ne : v.ownBlock ≠ some R
  n64 : os.length ≤ 64
def OwnQ (R : Nat) (v : Value) (k : Nat) : Prop := k = R ∨ v.ownBlock = some k
variable {w w' : World} {R m : Nat} {v : Value} {os : List Int}
theorem RQ.fr {S : Nat → Prop} (h : RQ w R m v os) (g : Fr S w w') (hs : ∀ k, OwnQ R v k → ¬ S k) : RQ w' R m v os := by
  refine ⟨h.hdr.fr g (hs _ (.inl rfl)), ?_, h.sh, h.ne, h.n64⟩
  obtain ⟨hl, hr⟩ := h.row
  refine ⟨hl, hr.imp id ?_⟩
  rintro ⟨b, cap, cur, e, hb, hh, r⟩
  exact ⟨b, cap, cur, e, hb, (g.block b (Array.getElem?_eq_some_iff.1 hh).1 (hs b (.inr (by rw [e]; rfl)))).trans hh, r⟩
theorem RQ.keep (h : RQ w R m v os) (g : w.grownBy w' none) : RQ w' R m v os := h.fr (S := fun _ => False) (Fr.of_grown g (by simp)) (fun _ _ => id)
theorem RQ.lt (h : RQ w R m v os) : ∀ k, OwnQ R v k → k < w.heap.size := by
  rintro k (rfl | e)
  · exact h.hdr.lt
  · exact (World.ownsRow.lt h.row k e).2
theorem RQ.c0 (h : RQ w R m v os) : w.cell? ⟨R, 0, none⟩ = some v := h.hdr.cell (i := 0) (by decide)
def Post (w : World) (R m : Nat) (v : Value) (ms' : List Int) (w' : World) : Prop := ∃ v', RQ w' R m v' ms' ∧ Fr (OwnQ R v) w w' ∧ ∀ b, v'.ownBlock = some b → v.ownBlock = some b ∨ w.heap.size ≤ b
/-- One owner is written. -/
theorem RQ.set {M n : Nat} (h : RQ w R m (.slice (some ⟨M, 0, none⟩) n n) os) (hn : os.length = n) (i : Nat) (x : Int) : RQ (w.setCell ⟨M, i, none⟩ (.int .u32 x)) R m (.slice (some ⟨M, 0, none⟩) n n) (os.set i x) := by
  subst hn
  have hne : M ≠ R := fun e => h.ne (by rw [e]; rfl)
  exact ⟨h.hdr.kept (grownBy_setCell w M i (.int .u32 x)) (by simpa using hne), h.row.set i x, ⟨M, by rw [List.length_set]⟩, h.ne, by rw [List.length_set]; exact h.n64⟩
theorem RQ.same (h : RQ w R m v os) (g : w.grownBy w' none) : Post w R m v os w' := ⟨v, h.keep g, Fr.of_grown g (by simp), fun b hb => .inl hb⟩
theorem RQ.open (h : RQ w R m v os) {n : Nat} (hn : os.length = n) : ∃ M, v = .slice (some ⟨M, 0, none⟩) n n ∧ (∀ i, i < n → w.cell? ⟨M, i, none⟩ = some (.int .u32 (gd os i))) ∧ (∀ i, w.frozen? ⟨M, i, none⟩ = false) ∧ w.cell? ⟨R, 0, none⟩ = some (.slice (some ⟨M, 0, none⟩) n n) ∧ n ≤ 64 := by
  subst hn
  obtain ⟨M, rfl⟩ := h.sh
  exact ⟨M, rfl, fun i hi => h.row.cell hi, fun i => h.row.frozen i, h.c0, h.n64⟩
theorem new_bad (x z : Int) (h : x < 1 ∨ (1 ≤ x ∧ 64 < x) ∨ (1 ≤ x ∧ x ≤ 64 ∧ z < 1) ∨ (1 ≤ x ∧ x ≤ 64 ∧ 1 ≤ z ∧ 256 < z)) (w : World) :
    Calls Tryd.prog 56 #[.int .i64 x, .int .i64 z] w fun e w' => e = .returned (.tuple #[.pointer none, .int .i64 1]) ∧ w = w' := by
  have hcs : decide (x < 1) = true ∨ (decide (x < 1) = false ∧ decide (64 < x) = true) ∨ (decide (x < 1) = false ∧ decide (64 < x) = false ∧ decide (z < 1) = true) ∨ (decide (x < 1) = false ∧ decide (64 < x) = false ∧ decide (z < 1) = false ∧ decide (256 < z) = true) := by
    simp only [decide_eq_true_eq, decide_eq_false_iff_not]; omega
  clear h
  rcases hcs with p1 | ⟨p1, p2⟩ | ⟨p1, p2, p3⟩ | ⟨p1, p2, p3, p4⟩
  all_goals
    go_enter Tryd.func56, Tryd.ntmps56
    go_wp2_with fail
    go_ret2
    exact ⟨rfl, rfl⟩
theorem made_words (n : Nat) : (madeCells (Value.int .u32 0).cells (n * 1)).toList = (List.replicate n (0 : Int)).map (Value.int .u32) := by
  apply List.ext_getElem
  · simp [size_madeCells]
  · intro i h1 h2
    simp [madeCells, Value.cells, Nat.mod_one]
set_option maxRecDepth 100000 in
theorem new_ok (n : Nat) (z : Int) (h1 : 1 ≤ n) (h2 : n ≤ 64) (h3 : 1 ≤ z) (h4 : z ≤ 256) (w : World) :
    Calls Tryd.prog 56 #[.int .i64 n, .int .i64 z] w fun e w' => ∃ R v, e = .returned (.tuple #[.pointer (some ⟨R, 0, none⟩), .int .i64 0]) ∧ RQ w' R n v (List.replicate n 0) ∧ w.grownBy w' none ∧ w.heap.size ≤ R ∧ ∀ b, v.ownBlock = some b → w.heap.size ≤ b := by
  obtain ⟨i0, hi0, hz0, hz1, hz2⟩ := info_parts infoWord
  have p1 : decide ((n : Int) < 1) = false := decide_eq_false (by omega)
  have p2 : decide ((64 : Int) < (n : Int)) = false := decide_eq_false (by omega)
  have p3 : decide (z < 1) = false := decide_eq_false (by omega)
  have p4 : decide (256 < z) = false := decide_eq_false (by omega)
  go_enter Tryd.func56, Tryd.ntmps56
  go_wp2_with (refine wpList_make_full w rfl _ _ 56 rfl w.heap.size 22 i0 (.int .u32 0) 1 Tryd.underlying56 hi0 hz0 hz1 .i64 .i64 n n n rfl rfl rfl rfl (by rw [hz2]; omega) (by unfold maxLen; omega) (Nat.le_refl _) ?_; intro w1 hown hgrow)
  go_ret2
  have hM : Mine w1 w.heap.size 22 .u32 (.slice (some ⟨w.heap.size, 0, none⟩) n n) (List.replicate n 0) := by
    unfold Mine; rw [List.length_replicate]; rw [made_words] at hown; exact hown
  have hlt := hM.lt
  refine ⟨w1.heap.size, .slice (some ⟨w.heap.size, 0, none⟩) n n, rfl, ⟨Arr.new _ _ _ _ _ rfl (fun i hi => by have e : i = 0 := (by omega); subst e; rfl), ?_, ⟨w.heap.size, by rw [List.length_replicate]⟩, by simp [Value.ownBlock]; omega, by rw [List.length_replicate]; exact h2⟩, grown_alloc hgrow _, by omega, fun b hb => by cases hb; exact Nat.le_refl _⟩
  have h9 := hM.keep (World.grownBy_alloc w1 (.cells #[.slice (some ⟨w.heap.size, 0, none⟩) n n] 141) none)
  obtain ⟨hl, hr⟩ := h9
  exact ⟨hl, hr.imp id fun ⟨b, cap, cur, e, hb, r⟩ => ⟨b, cap, cur, e, Nat.zero_le _, r⟩⟩
end RefP
end Go.Proofs.YtabkkeeedlnmnaaDoor
