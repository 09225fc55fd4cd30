/- timekeeperref15: a row behind a row; List, Put, Push, Turn. -/
import Derived.Test.YtdbddfbdhgohbaaGreatDoorRdyRef2
import Derived.Maps.AppendAt
namespace Go.Proofs.YtdbddfbdhgohbaaGreatDoor
open Go.RowKit Go.Shelf Tk Tk.Rdy
set_option linter.unusedVariables false
set_option linter.unusedSimpArgs false
namespace RefD
theorem src_of {w : World} {lo hi : Nat} {k : IntKind} {ad : Addr} {xs : List Int} (h : SlA w lo hi k (some ad) xs) : ∀ j u, (xs.map (Value.int k))[j]? = some u → w.cell? (ad.add j) = some u := by
  intro j u hu
  have hj : j < xs.length := by
    by_cases hj : j < xs.length
    · exact hj
    · rw [List.getElem?_eq_none (by simpa using hj)] at hu; cases hu
  rcases h.2 with h' | ⟨b, o, hA, -⟩
  · rw [h'] at hj; simp at hj
  · cases hA
    have e0 : ((⟨b, o, none⟩ : Addr).add j) = ⟨b, o + j, none⟩ := by
      unfold Addr.add; by_cases hi0 : j = 0 <;> simp [hi0]
    rw [e0, h.cell hj, gd_lt hj]
    rw [List.getElem?_map, List.getElem?_eq_getElem hj] at hu
    exact hu
theorem run_nil_any {P : Program} {w : World} (base : Nat) (t ty e : TypeId) (i : TypeInfo) (size : Nat) (ht : P.underlying t = some (.slice e)) (hi : P.info? e = some i)
    (v : Value) (n m c : Nat) (hm : m = 0) (xs : List Value) (hown : w.ownsRow base e size v n xs) :
    (Builtin.append_ #[t, t] ty #[v, .slice none m c]).run P w = .ok v w := by
  subst hm
  rcases hown.2 with ⟨rfl, rfl⟩ | ⟨g, cap, cur, rfl, _, _, hnc, _⟩
  · simp [Builtin.append_, run_underlying ht, sizeOf, typeInfo, hi, Builtin.lenOf, Builtin.firstCells]
  · simp [Builtin.append_, run_underlying ht, sizeOf, typeInfo, hi, Builtin.lenOf, Builtin.firstCells, hnc, storeCells]
theorem ones (xs : List Int) : ∀ u ∈ xs.map (Value.int .i64), u.oneCell' = true := by
  intro u hu
  rw [List.mem_map] at hu
  obtain ⟨y, -, rfl⟩ := hu
  rfl
/-- append of a list of ints onto a row of the call's own: what it answers. -/
theorem run_join {P : Program} {w : World} (base : Nat) (t ty e : TypeId) (i : TypeInfo) (ht : P.underlying t = some (.slice e)) (hi : P.info? e = some i) (hz : i.zero = some (.int .i64 0)) (hsize : i.size = 1) (hby : i.bytes = 8)
    (v : Value) (ys : List Int) (hown : Mine w base e .i64 v ys) (A : Option Addr) (n c lo h' : Nat) (xs : List Int) (hsl : SlA w lo h' .i64 A xs) (hn : xs.length = n) (hm : n ≤ 2000) (hy : ys.length ≤ 2000) (hb : base ≤ w.heap.size) :
    ∃ v' w', (Builtin.append_ #[t, t] ty #[v, .slice A n c]).run P w = .ok v' w' ∧ Mine w' base e .i64 v' (ys ++ xs) ∧ w.grownBy w' v.ownBlock := by
  cases A with
  | none =>
    have hx0 : xs = [] := by
      rcases hsl.2 with h | ⟨b, o, h, -⟩
      · exact h
      · cases h
    subst hx0
    exact ⟨v, w, run_nil_any base t ty e i 1 ht hi v ys.length n c hn.symm _ hown, by rw [List.append_nil]; exact hown, grown_refl _ _⟩
  | some ad =>
    obtain ⟨v', w', hr, h2, h3, -, -⟩ := run_append_own_at (P := P) (w := w) base t ty e i (.int .i64 0) 1 8 ht hi hz hsize hby rfl (by decide) v ys.length (ys.map (Value.int .i64)) hown ad n c (xs.map (Value.int .i64)) (by simp [hn]) (src_of hsl) (ones _) (by unfold maxLen; omega) (by omega) hb
    refine ⟨v', w', hr, ?_, h3⟩
    unfold Mine
    rw [List.length_append, List.map_append, hn]
    exact h2
/-- As a step of a region that draws. -/
theorem step_join {P : Program} {ops : Array Oper} {o : Oper} {a : Go.Act} {w : World} {K : Go.Act → World → Prop} {Q : Exit → Go.Act → World → Prop} {E : Prop}
    (hg : o.guard = none) (s x : Operand) (t : TypeId) (hop : o.op = Op.call { callee := Callee.builtin Builtin.append, args := #[s, x], argTypes := #[t, t] })
    (base : Nat) (e : TypeId) (i : TypeInfo) (ht : P.underlying t = some (.slice e)) (hi : P.info? e = some i) (hz : i.zero = some (.int .i64 0)) (hsize : i.size = 1) (hby : i.bytes = 8)
    (v : Value) (ys : List Int) (hs : a.eval s = v) (hown : Mine w base e .i64 v ys) (A : Option Addr) (n c lo h' : Nat) (xs : List Int) (hx : a.eval x = .slice A n c) (hsl : SlA w lo h' .i64 A xs) (hn : xs.length = n) (hm : n ≤ 2000) (hy : ys.length ≤ 2000) (hb : base ≤ w.heap.size)
    (hK : ∀ v' w', Mine w' base e .i64 v' (ys ++ xs) → w.grownBy w' v.ownBlock → K (a.put o.dst v') w') :
    if Region.wanted o (yielded ops a.tmps) = true then Oper.wp P o a w K Q else E := by
  have hw : Region.wanted o (yielded ops a.tmps) = true := by simp [Region.wanted, hg]
  rw [if_pos hw]
  obtain ⟨v', w', hr, h2, h3⟩ := run_join (P := P) base t o.type e i ht hi hz hsize hby v ys hown A n c lo h' xs hsl hn hm hy hb
  unfold Oper.wp
  simp [execOp, hop, resolve, invoke, builtin, hs, hx, hr, Result.andThen]
  exact hK _ _ h2 h3
/-- As a step of a plain region. -/
theorem wpList_join {P : Program} {w : World} {ops : Array Oper} {rest : List Oper} {o : Oper} {a : Go.Act} {Q : Exit → Go.Act → World → Prop} (hgd : o.guard = none) (s x : Operand) (t : TypeId)
    (ho : o.op = .call { callee := .builtin .append, args := #[s, x], argTypes := #[t, t] }) (base : Nat) (e : TypeId) (i : TypeInfo) (ht : P.underlying t = some (.slice e)) (hi : P.info? e = some i) (hz : i.zero = some (.int .i64 0)) (hsize : i.size = 1) (hby : i.bytes = 8)
    (v : Value) (ys : List Int) (hs : a.eval s = v) (hown : Mine w base e .i64 v ys) (A : Option Addr) (n c lo h' : Nat) (xs : List Int) (hx : a.eval x = .slice A n c) (hsl : SlA w lo h' .i64 A xs) (hn : xs.length = n) (hm : n ≤ 2000) (hy : ys.length ≤ 2000) (hb : base ≤ w.heap.size)
    (hK : ∀ v' w', Mine w' base e .i64 v' (ys ++ xs) → w.grownBy w' v.ownBlock → wpList P ops Q rest (a.put o.dst v') w') : wpList P ops Q (o :: rest) a w := by
  refine wpList_plain hgd fun K hK' => ?_
  obtain ⟨v', w', hr, h2, h3⟩ := run_join (P := P) base t o.type e i ht hi hz hsize hby v ys hown A n c lo h' xs hsl hn hm hy hb
  unfold Oper.wp
  simp [execOp, ho, resolve, invoke, builtin, hs, hx, hr, Result.andThen]
  exact hK' _ _ (hK _ _ h2 h3)
theorem grown_row {W WA w5 : World} {e : TypeId} {v : Value} {xs : List Int} (h : W.grownBy WA none) (hown : Mine WA W.heap.size e .i64 v xs) (hg : WA.grownBy w5 v.ownBlock) : W.grownBy w5 none :=
  ⟨hg.os.trans h.os, hg.tape.trans h.tape, hg.output.trans h.output, Nat.le_trans h.size hg.size, fun k hk _ => (hg.block k (Nat.lt_of_lt_of_le hk h.size) (fun e => by have := (World.ownsRow.lt hown k e.symm).1; omega)).trans (h.block k hk (by simp))⟩
theorem redrew {a b : World} {r : Option Nat} (h : a.grownBy b r) : a.drew.grownBy b r := ⟨h.os, h.tape, h.output, h.size, h.block⟩
theorem one_sl (W : World) (x : Int) (T : TypeId) : SlA (W.alloc (.cells #[.int .i64 x] T)) W.heap.size (W.heap.size + 1) .i64 (some ⟨W.heap.size, 0, none⟩) [x] := SlA.made W .i64 [x] _ T rfl
theorem one_row (W : World) (x : Int) (T : TypeId) : Mine (W.alloc (.cells #[.int .i64 x] T)) W.heap.size T .i64 (.slice (some ⟨W.heap.size, 0, none⟩) 1 1) [x] := by
  refine ⟨rfl, .inr ⟨W.heap.size, 1, #[.int .i64 x], rfl, Nat.le_refl _, _root_.Go.heap_alloc_new W _, Nat.le_refl _, by decide, rfl, rfl⟩⟩
variable {w w' : World} {R : Nat} {v : Nat → Value} {ls : Nat → List Int} {rk : Nat → Nat} {has : Nat}
theorem listr_no (r : Int) (hb : r < 0 ∨ 31 < r) (w : World) :
    Calls Tryz.prog 15 #[.pointer (some ⟨R, 0, none⟩), .int .i64 r] w fun e w' => ∃ u, e = .returned u ∧ Mine w' w.heap.size 3 .i64 u [] ∧ w.grownBy w' none := by
  have hcs : decide (r < 0) = true ∨ (decide (r < 0) = false ∧ decide (31 < r) = true) := by
    simp only [decide_eq_true_eq, decide_eq_false_iff_not]; omega
  clear hb
  rcases hcs with p1 | ⟨p1, p2⟩
  all_goals
    go_enter Tryz.func15, Tryz.ntmps15
    go_wp2_with fail
    go_ret
    exact ⟨_, rfl, Mine.nil _ _ _ _, grown_refl _ _⟩
theorem listr_in (h : RQ w R v ls) {r : Nat} (hr : r < 32) (hl : (ls r).length ≤ 256) :
    Calls Tryz.prog 15 #[.pointer (some ⟨R, 0, none⟩), .int .i64 r] w fun e w' => ∃ u, e = .returned u ∧ Mine w' w.heap.size 3 .i64 u (ls r) ∧ w.grownBy w' none := by
  obtain ⟨i0, hi, hz0, hz1, hz2⟩ := info_parts infoI
  obtain ⟨n, hn⟩ : ∃ n, (ls r).length = n := ⟨_, rfl⟩
  obtain ⟨A, c, -, hc, hcm, hsl, q⟩ := h.row hr hn
  have p1 : decide ((r : Int) < 0) = false := decide_eq_false (by omega)
  have p2 : decide ((31 : Int) < (r : Int)) = false := decide_eq_false (by omega)
  have r0 : (0 : Int) ≤ (r : Int) := Int.natCast_nonneg _
  have r32 : (r : Int) < 32 := by omega
  rw [hn] at hl
  replace hn := Lib.hid hn
  replace hsl := Lib.hid hsl
  clear h
  go_enter Tryz.func15, Tryz.ntmps15
  go_wp2_with (at_builtin; refine wpList_join rfl _ _ 45 rfl w.heap.size 3 i0 Tryz.underlying45 hi hz0 hz1 hz2 (.slice none 0 0) [] rfl (Mine.nil _ _ _ _) A n c 0 w.heap.size (ls r) rfl hsl.out hn.out (by omega) (by simp) (Nat.le_refl _) ?_; intro v' w5 hM5 hgrow; obtain ⟨A5, c5, rfl, -⟩ := hM5.form)
  go_ret
  exact ⟨_, rfl, hM5, hgrow⟩
theorem put_no (x r m : Int) (h0 : m ≠ 0) (hmay : Calls Tryz.prog 64 #[.pointer (some ⟨R, 0, none⟩), .int .i64 x, .int .i64 r] w fun e w' => e = .returned (.int .i64 m) ∧ w = w') :
    Calls Tryz.prog 26 #[.pointer (some ⟨R, 0, none⟩), .int .i64 x, .int .i64 r] w fun e w' => e = .returned (.int .i64 m) ∧ w = w' := by
  have q : (m == 0) = false := by rw [beq_eq_false_iff_ne]; exact h0
  replace hmay := Lib.hid hmay
  clear h0
  go_enter Tryz.func26, Tryz.ntmps26
  go_wp2_with fail
  refine hmay.out.mono ?_; rintro e w1 ⟨rfl, rfl⟩
  go_wp2_with fail
  go_ret
  exact ⟨rfl, rfl⟩
theorem push_no (x r m : Int) (h0 : m ≠ 0) (hmay : Calls Tryz.prog 64 #[.pointer (some ⟨R, 0, none⟩), .int .i64 x, .int .i64 r] w fun e w' => e = .returned (.int .i64 m) ∧ w = w') :
    Calls Tryz.prog 23 #[.pointer (some ⟨R, 0, none⟩), .int .i64 x, .int .i64 r] w fun e w' => e = .returned (.int .i64 m) ∧ w = w' := by
  have q : (m == 0) = false := by rw [beq_eq_false_iff_ne]; exact h0
  replace hmay := Lib.hid hmay
  clear h0
  go_enter Tryz.func23, Tryz.ntmps23
  go_wp2_with fail
  refine hmay.out.mono ?_; rintro e w1 ⟨rfl, rfl⟩
  go_wp2_with fail
  go_ret
  exact ⟨rfl, rfl⟩
set_option maxRecDepth 100000 in
set_option maxHeartbeats 4000000 in
theorem put_ok (x : Int) (h : RQ w R v ls) {r : Nat} (hr : r < 32) (hl : (ls r).length ≤ 256) (hmay : Calls Tryz.prog 64 #[.pointer (some ⟨R, 0, none⟩), .int .i64 x, .int .i64 r] w fun e w' => e = .returned (.int .i64 0) ∧ w = w') :
    Calls Tryz.prog 26 #[.pointer (some ⟨R, 0, none⟩), .int .i64 x, .int .i64 r] w fun e w' => e = .returned (.int .i64 0) ∧ Post w R v (upd ls r (ls r ++ [x])) w' := by
  obtain ⟨i0, hi0, hz0, hz1, hz2⟩ := info_parts infoI
  obtain ⟨n, hn⟩ : ∃ n, (ls r).length = n := ⟨_, rfl⟩
  obtain ⟨A, c, hv, hc, hcm, hsl, q⟩ := h.row hr hn
  have r0 : (0 : Int) ≤ (r : Int) := Int.natCast_nonneg _
  have r32 : (r : Int) < 32 := by omega
  rw [hn] at hl
  have hR := Lib.hid h
  have hq : Hid (∀ W, w.grownBy W none → W.cell? ⟨R, r, none⟩ = some (.slice A n c)) := fun W hg => by rw [← hv]; exact (hR.out.keep hg).at hr
  have hsA : Hid (∀ W, w.grownBy W none → SlA W 0 w.heap.size .i64 A (ls r)) := fun W hg => hsl.kept hg (by simp)
  replace hv := Lib.hid hv
  replace hn := Lib.hid hn
  replace hmay := Lib.hid hmay
  clear hsl h
  go_enter Tryz.func26, Tryz.ntmps26
  go_wp2_with fail
  refine hmay.out.mono ?_; rintro e w1 ⟨rfl, rfl⟩
  go_wp2_with fail
  have hG0 : Hid (w.grownBy w.drew none) := grown_drewN (grown_refl _ _) 1
  have hGb : Hid (w.grownBy (w.alloc (.cells #[.int .i64 x] 3)).drew none) := grown_drewN (World.grownBy_alloc w _ none) 1
  have qd : w.drew.cell? ⟨R, r, none⟩ = some (.slice A n c) := q
  have qb : (w.alloc (.cells #[.int .i64 x] 3)).cell? ⟨R, r, none⟩ = some (.slice A n c) := hq.out _ (World.grownBy_alloc w _ none)
  have hob : Hid (SlA (w.alloc (.cells #[.int .i64 x] 3)).drew w.heap.size (w.heap.size + 1) .i64 (some ⟨w.heap.size, 0, none⟩) [x]) := one_sl w x _
  go_region_law (first
    | (refine step_join rfl _ _ 45 rfl w.heap.size 3 i0 Tryz.underlying45 hi0 hz0 hz1 hz2 (.slice none 0 0) [] rfl (Mine.nil _ _ _ _) A n c 0 w.heap.size (ls r) rfl (hsA.out (w.alloc (.cells #[.int .i64 x] 3)).drew hGb.out) hn.out (by omega) (by simp) hGb.out.size ?_; intro v1 w1 hM1 hg1; have hG1 := Lib.hid (grown_trans hGb.out hg1); have q1 := hq.out w1 hG1.out; have hone := Lib.hid (hob.out.kept hg1 (by intro b hb; cases hb)); clear hg1)
    | (refine step_join rfl _ _ 45 rfl w.heap.size 3 i0 Tryz.underlying45 hi0 hz0 hz1 hz2 (.slice none 0 0) [] rfl (Mine.nil _ _ _ _) A n c 0 w.heap.size (ls r) rfl (hsA.out w.drew hG0.out) hn.out (by omega) (by simp) hG0.out.size ?_; intro v1 w1 hM1 hg1; have hG1 := Lib.hid (grown_trans hG0.out hg1); have q1 := hq.out w1 hG1.out; have q1a := hq.out (w1.alloc (.cells #[.int .i64 x] 3)) (grown_alloc hG1.out _); clear hg1)
    | (refine step_join rfl _ _ 45 rfl w.heap.size 3 i0 Tryz.underlying45 hi0 hz0 hz1 hz2 v1 ([] ++ ls r) rfl hM1 (some ⟨w.heap.size, 0, none⟩) 1 1 w.heap.size (w.heap.size + 1) [x] rfl hone.out rfl (by decide) (by simp [hn.out]; omega) hG1.out.size ?_; intro v2 w2 hM2 hg2; obtain ⟨A2, c2, e2, -⟩ := hM2.form; obtain ⟨hu0, hf0, hP⟩ := fin hr hR.out hM2 (grown_row hG1.out hM1 hg2); rw [hv.out] at hu0; obtain ⟨L2, hL2⟩ : ∃ L2, ([] ++ ls r ++ [x]).length = L2 := ⟨_, rfl⟩; rw [hL2] at e2; subst e2; clear hM2 hg2 hL2)
    | (refine step_join rfl _ _ 45 rfl w.heap.size 3 i0 Tryz.underlying45 hi0 hz0 hz1 hz2 v1 ([] ++ ls r) rfl (hM1.keep (World.grownBy_alloc _ _ none)) (some ⟨w1.heap.size, 0, none⟩) 1 1 w1.heap.size (w1.heap.size + 1) [x] rfl (one_sl w1 x _) rfl (by decide) (by simp [hn.out]; omega) (Nat.le_trans hG1.out.size (by simp)) ?_; intro v2 w2 hM2 hg2; obtain ⟨A2, c2, e2, -⟩ := hM2.form; obtain ⟨hu0, hf0, hP⟩ := fin hr hR.out hM2 (grown_row (grown_alloc hG1.out _) (hM1.keep (World.grownBy_alloc _ _ none)) hg2); rw [hv.out] at hu0; obtain ⟨L2, hL2⟩ : ∃ L2, ([] ++ ls r ++ [x]).length = L2 := ⟨_, rfl⟩; rw [hL2] at e2; subst e2; clear hM2 hg2 hL2))
  all_goals
    rw [List.nil_append] at hP
    go_wp2_with fail
    go_ret
    exact ⟨rfl, hP⟩
set_option maxRecDepth 100000 in
set_option maxHeartbeats 4000000 in
theorem push_ok (x : Int) (h : RQ w R v ls) {r : Nat} (hr : r < 32) (hl : (ls r).length ≤ 256) (hmay : Calls Tryz.prog 64 #[.pointer (some ⟨R, 0, none⟩), .int .i64 x, .int .i64 r] w fun e w' => e = .returned (.int .i64 0) ∧ w = w') :
    Calls Tryz.prog 23 #[.pointer (some ⟨R, 0, none⟩), .int .i64 x, .int .i64 r] w fun e w' => e = .returned (.int .i64 0) ∧ Post w R v (upd ls r (x :: ls r)) w' := by
  obtain ⟨i0, hi0, hz0, hz1, hz2⟩ := info_parts infoI
  obtain ⟨n, hn⟩ : ∃ n, (ls r).length = n := ⟨_, rfl⟩
  obtain ⟨A, c, hv, hc, hcm, hsl, q⟩ := h.row hr hn
  have r0 : (0 : Int) ≤ (r : Int) := Int.natCast_nonneg _
  have r32 : (r : Int) < 32 := by omega
  rw [hn] at hl
  have hR := Lib.hid h
  have hq : Hid (∀ W, w.grownBy W none → W.cell? ⟨R, r, none⟩ = some (.slice A n c)) := fun W hg => by rw [← hv]; exact (hR.out.keep hg).at hr
  have hsA : Hid (∀ W, w.grownBy W none → SlA W 0 w.heap.size .i64 A (ls r)) := fun W hg => hsl.kept hg (by simp)
  replace hv := Lib.hid hv
  replace hn := Lib.hid hn
  replace hmay := Lib.hid hmay
  clear hsl h
  go_enter Tryz.func23, Tryz.ntmps23
  go_wp2_with fail
  refine hmay.out.mono ?_; rintro e w1 ⟨rfl, rfl⟩
  go_wp2_with fail
  have hGb : Hid (w.grownBy (w.alloc (.cells #[.int .i64 x] 3)).drew none) := grown_drewN (World.grownBy_alloc w _ none) 1
  have qd : w.drew.cell? ⟨R, r, none⟩ = some (.slice A n c) := q
  have qb : (w.alloc (.cells #[.int .i64 x] 3)).cell? ⟨R, r, none⟩ = some (.slice A n c) := hq.out _ (World.grownBy_alloc w _ none)
  have hob : Hid (Mine (w.alloc (.cells #[.int .i64 x] 3)).drew w.heap.size 3 .i64 (.slice (some ⟨w.heap.size, 0, none⟩) 1 1) [x]) := one_row w x _
  go_region_law (refine step_join rfl _ _ 45 rfl w.heap.size 3 i0 Tryz.underlying45 hi0 hz0 hz1 hz2 (.slice (some ⟨w.heap.size, 0, none⟩) 1 1) [x] rfl hob.out A n c 0 w.heap.size (ls r) rfl (hsA.out (w.alloc (.cells #[.int .i64 x] 3)).drew hGb.out) hn.out (by omega) (by simp) hGb.out.size ?_; intro v2 w2 hM2 hg2; obtain ⟨A2, c2, e2, -⟩ := hM2.form; obtain ⟨hu0, hf0, hP⟩ := fin hr hR.out hM2 (grown_row hGb.out hob.out hg2); rw [hv.out] at hu0; obtain ⟨L2, hL2⟩ : ∃ L2, ([x] ++ ls r).length = L2 := ⟨_, rfl⟩; rw [hL2] at e2; subst e2; clear hM2 hg2 hL2)
  all_goals
    replace hP : Post w R v (upd ls r (x :: ls r)) _ := hP
    go_wp2_with fail
    go_ret
    exact ⟨rfl, hP⟩
end RefD
end Go.Proofs.YtdbddfbdhgohbaaGreatDoor
