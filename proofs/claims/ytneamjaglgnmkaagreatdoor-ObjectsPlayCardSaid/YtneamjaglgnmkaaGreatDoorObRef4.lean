/- timekeeperref18: what is asked of queues. -/
import Derived.Test.YtneamjaglgnmkaaGreatDoorObRef3
namespace Go.Proofs.YtneamjaglgnmkaaGreatDoor
open Go.RowKit Go.Shelf Tk Tk.Msk
set_option linter.unusedVariables false
set_option linter.unusedSimpArgs false
namespace RefO
variable {w : World} {R : Nat} {vr vo : Value} {S : TR}
set_option maxRecDepth 100000 in
set_option maxHeartbeats 8000000 in
theorem more_put_no (h : RQ w R vr vo S) (m : Nat) (hm : S.a = m) (hm2 : m ≤ 64) (hl : m ≤ S.rs.length) (who hh v x t : Int) : Calls Tryz.prog 22 #[.pointer (some ⟨R, 0, none⟩), .int .u32 who, askV 7 hh v x t] w fun e w' => e = .returned (.tuple #[.int .u32 0, .int .i64 7]) ∧ w.grownBy w' none := by
  obtain ⟨n, hn⟩ : ∃ n, S.rs.length = n := ⟨_, rfl⟩
  obtain ⟨A, cc, rfl, hcc, hcm, hsl, hcl⟩ := h.openR hn
  have hg0 := Lib.hid (World.grownBy_alloc w (.cells #[.int .u8 7, .int .u32 hh, .int .u32 v, .int .u32 x, .int .i64 t] 39) none)
  have hB := World.alloc_heap_new w (.cells #[.int .u8 7, .int .u32 hh, .int .u32 v, .int .u32 x, .int .i64 t] 39)
  have hR := Lib.hid (h.keep hg0.out)
  have hne : R ≠ w.heap.size := by have := h.lt R (.inl rfl); omega
  have hRl : R < w.heap.size := h.lt R (.inl rfl)
  have c1 := hR.out.c1
  have c5 := hR.out.c5
  have b0 := cell_of (i := 0) (v := .int .u8 7) hB rfl
  have b2 := cell_of (i := 2) (v := .int .u32 v) hB rfl
  have b3 := cell_of (i := 3) (v := .int .u32 x) hB rfl
  unfold askV
  go_enter Tryz.func22, Tryz.ntmps22
  rw [hm] at c1
  rw [hn] at hl
  have hw : IntKind.i64.wrap (m : Int) = m := by rw [IntKind.wrap_i64]; omega
  have ht : decide ((m : Int) ≤ (n : Int)) = true := decide_eq_true (by omega)
  have ht2 : (m : Int) ≤ (n : Int) := by omega
  clear h hsl hcl hcc hcm hm hl hn hm2
  go_wp2_with fail
  generalize w.alloc (.cells #[.int .u8 7, .int .u32 hh, .int .u32 v, .int .u32 x, .int .i64 t] 39) = W0 at *
  generalize w.heap.size = Z at *
  replace hB := Lib.hid hB
  replace hne := Lib.hid hne
  go_quiet (fail)
  go_wp2_with fail
  go_ret2
  exact ⟨rfl, grown_drewN hg0.out nq⟩
set_option maxRecDepth 100000 in
set_option maxHeartbeats 8000000 in
theorem more_push_no (h : RQ w R vr vo S) (m : Nat) (hm : S.a = m) (hm2 : m ≤ 64) (hl : m ≤ S.rs.length) (who hh v x t : Int) : Calls Tryz.prog 22 #[.pointer (some ⟨R, 0, none⟩), .int .u32 who, askV 8 hh v x t] w fun e w' => e = .returned (.tuple #[.int .u32 0, .int .i64 7]) ∧ w.grownBy w' none := by
  obtain ⟨n, hn⟩ : ∃ n, S.rs.length = n := ⟨_, rfl⟩
  obtain ⟨A, cc, rfl, hcc, hcm, hsl, hcl⟩ := h.openR hn
  have hg0 := Lib.hid (World.grownBy_alloc w (.cells #[.int .u8 8, .int .u32 hh, .int .u32 v, .int .u32 x, .int .i64 t] 39) none)
  have hB := World.alloc_heap_new w (.cells #[.int .u8 8, .int .u32 hh, .int .u32 v, .int .u32 x, .int .i64 t] 39)
  have hR := Lib.hid (h.keep hg0.out)
  have hne : R ≠ w.heap.size := by have := h.lt R (.inl rfl); omega
  have hRl : R < w.heap.size := h.lt R (.inl rfl)
  have c1 := hR.out.c1
  have c5 := hR.out.c5
  have b0 := cell_of (i := 0) (v := .int .u8 8) hB rfl
  have b2 := cell_of (i := 2) (v := .int .u32 v) hB rfl
  have b3 := cell_of (i := 3) (v := .int .u32 x) hB rfl
  unfold askV
  go_enter Tryz.func22, Tryz.ntmps22
  rw [hm] at c1
  rw [hn] at hl
  have hw : IntKind.i64.wrap (m : Int) = m := by rw [IntKind.wrap_i64]; omega
  have ht : decide ((m : Int) ≤ (n : Int)) = true := decide_eq_true (by omega)
  have ht2 : (m : Int) ≤ (n : Int) := by omega
  clear h hsl hcl hcc hcm hm hl hn hm2
  go_wp2_with fail
  generalize w.alloc (.cells #[.int .u8 8, .int .u32 hh, .int .u32 v, .int .u32 x, .int .i64 t] 39) = W0 at *
  generalize w.heap.size = Z at *
  replace hB := Lib.hid hB
  replace hne := Lib.hid hne
  go_quiet (fail)
  go_wp2_with fail
  go_ret2
  exact ⟨rfl, grown_drewN hg0.out nq⟩
theorem redrew {a b : World} {r : Option Nat} (h : a.grownBy b r) : a.drew.grownBy b r := ⟨h.os, h.tape, h.output, h.size, h.block⟩
theorem one_row (W : World) (x : Int) (T : TypeId) : Mine (W.alloc (.cells #[.int .u32 x] T)) W.heap.size T .u32 (.slice (some ⟨W.heap.size, 0, none⟩) 1 1) [x] := by
  refine ⟨rfl, .inr ⟨W.heap.size, 1, #[.int .u32 x], rfl, Nat.le_refl _, _root_.Go.heap_alloc_new W _, Nat.le_refl _, by decide, rfl, rfl⟩⟩
theorem grown_row {W WA w5 : World} {base : Nat} {e : TypeId} {v : Value} {xs : List Int} (h : W.grownBy WA none) (hown : Mine WA base e .u32 v xs) (hb : W.heap.size ≤ base) (hg : WA.grownBy w5 v.ownBlock) : W.grownBy w5 none :=
  ⟨hg.os.trans h.os, hg.tape.trans h.tape, hg.output.trans h.output, Nat.le_trans h.size hg.size, fun k hk _ => (hg.block k (Nat.lt_of_lt_of_le hk h.size) (fun e => by have := (World.ownsRow.lt hown k e.symm).1; omega)).trans (h.block k hk (by simp))⟩
/-- What a new row in the thing is. -/
theorem finR {w0 W w5 : World} {R : Nat} {vr vo : Value} {S : TR} (h : RQ W R vr vo S) (hF : w0.grownBy W none) {u : Value} {rs' : List Int} (hu : Mine w5 W.heap.size 23 .u32 u rs') (hg : W.grownBy w5 none) (hl : rs'.length ≤ 64) :
    w5.cell? ⟨R, 5, none⟩ = some vr ∧ w5.frozen? ⟨R, 5, none⟩ = false ∧ Post W R vr vo { S with rs := rs' } (w5.setCell ⟨R, 5, none⟩ u) :=
  ⟨(h.keep hg).c5, (h.keep hg).fz 5, h.postR hg hu hl⟩
theorem Post.back {w0 W w' : World} {R : Nat} {vr vo : Value} {S' : TR} (hF : w0.grownBy W none) (h : Post W R vr vo S' w') : Post w0 R vr vo S' w' := by
  obtain ⟨vr', vo', h1, h2, h3⟩ := h
  exact ⟨vr', vo', h1, (Fr.of_grown hF (by simp)).trans h2, fun b hb => (h3 b hb).imp id (Nat.le_trans hF.size)⟩
set_option maxRecDepth 100000 in
set_option maxHeartbeats 8000000 in
theorem more_put (h : RQ w R vr vo S) (m : Nat) (hm : S.a = m) (hm2 : m ≤ 64) (hl : S.rs.length < m) (who hh v x t : Int) : Calls Tryz.prog 22 #[.pointer (some ⟨R, 0, none⟩), .int .u32 who, askV 7 hh v x t] w fun e w' => e = .returned (.tuple #[.int .u32 0, .int .i64 0]) ∧ Post w R vr vo { S with rs := S.rs ++ [v] } w' := by
  obtain ⟨i0, hi0, hz0, hz1, hz2⟩ := info_parts infoW
  obtain ⟨n, hn⟩ : ∃ n, S.rs.length = n := ⟨_, rfl⟩
  obtain ⟨A, cc, rfl, hcc, hcm, hsl, hcl⟩ := h.openR hn
  have hg0 := Lib.hid (World.grownBy_alloc w (.cells #[.int .u8 7, .int .u32 hh, .int .u32 v, .int .u32 x, .int .i64 t] 39) none)
  have hB := World.alloc_heap_new w (.cells #[.int .u8 7, .int .u32 hh, .int .u32 v, .int .u32 x, .int .i64 t] 39)
  have hR := Lib.hid (h.keep hg0.out)
  have hne : R ≠ w.heap.size := by have := h.lt R (.inl rfl); omega
  have hRl : R < w.heap.size := h.lt R (.inl rfl)
  have c1 := hR.out.c1
  have c5 := hR.out.c5
  have b0 := cell_of (i := 0) (v := .int .u8 7) hB rfl
  have b2 := cell_of (i := 2) (v := .int .u32 v) hB rfl
  have b3 := cell_of (i := 3) (v := .int .u32 x) hB rfl
  unfold askV
  go_enter Tryz.func22, Tryz.ntmps22
  rw [hm] at c1
  rw [hn] at hl
  have hw : IntKind.i64.wrap (m : Int) = m := by rw [IntKind.wrap_i64]; omega
  have ht : decide ((m : Int) ≤ (n : Int)) = false := decide_eq_false (by omega)
  have ht2 : ¬ (m : Int) ≤ (n : Int) := by omega
  have hn64 : n < 64 := by omega
  clear h hsl hcl hcc hcm hm hl hm2
  go_wp2_with fail
  generalize w.alloc (.cells #[.int .u8 7, .int .u32 hh, .int .u32 v, .int .u32 x, .int .i64 t] 39) = W0 at *
  generalize w.heap.size = Z at *
  replace hB := Lib.hid hB
  replace hne := Lib.hid hne
  go_quiet (fail)
  have hR1 : RQ (W0.drewN nq) R (.slice A n cc) vo S := hR.out.keep (grown_drewN (grown_refl _ _) nq)
  have hG1 : w.grownBy (W0.drewN nq) none := grown_drewN hg0.out nq
  have hB1 : (W0.drewN nq).heap[Z]? = _ := hB.out
  generalize W0.drewN nq = W at *
  clear c1 c5 b0 b2 b3 hR hg0 hB
  have c5 := hR1.c5
  have z5 := hR1.fz 5
  have b0 := cell_of (i := 0) (v := .int .u8 7) hB1 rfl
  have b2 := cell_of (i := 2) (v := .int .u32 v) hB1 rfl
  have hsl : SlA W 0 W.heap.size .u32 A S.rs := by
    obtain ⟨A', c', e, h9⟩ := hR1.openR hn
    cases e; exact h9.2.2.1
  have hRl2 : R < W.heap.size := hR1.lt R (.inl rfl)
  have hZl2 : Z < W.heap.size := (Array.getElem?_eq_some_iff.1 hB1).1
  replace hR1 := Lib.hid hR1
  replace hG1 := Lib.hid hG1
  replace hB1 := Lib.hid hB1
  replace hsl := Lib.hid hsl
  replace hn := Lib.hid hn
  clear hw hne
  go_wp2_with fail
  clear ht ht2
  go_region_law (first
    | (refine step_join rfl _ _ 53 rfl W.heap.size 23 i0 Tryz.underlying53 hi0 hz0 hz1 hz2 (.slice none 0 0) [] (by go_simp) (Mine.nil _ _ _ _) A n cc 0 W.heap.size S.rs (by go_simp) hsl.out hn.out (by omega) (by simp) (Nat.le_refl _) ?_; intro v1 w1 hown1 hg1; have hG2 : Hid (W.grownBy w1 none) := grown_undrew hg1; have c51 : w1.cell? ⟨R, 5, none⟩ = some (.slice A n cc) := (hR1.out.keep hG2.out).c5; have b21 : w1.cell? ⟨Z, 2, none⟩ = some (.int .u32 v) := grown_cell hG2.out b2; clear hg1)
    | (refine step_join rfl _ _ 53 rfl W.heap.size 23 i0 Tryz.underlying53 hi0 hz0 hz1 hz2 (.slice none 0 0) [] (by go_simp) (Mine.nil _ _ _ _) A n cc 0 W.heap.size S.rs (by go_simp) (SlA.alloc hsl.out _) hn.out (by omega) (by simp) (by simp) ?_; intro v1 w1 hown1 hg1; have hG2 : Hid (W.grownBy w1 none) := grown_undrew (grown_trans (World.grownBy_alloc _ _ none) hg1); have hs1 := Lib.hid ((SlA.made W.drew .u32 [v] (#[.int .u32 v]) 23 rfl).kept hg1 (by simp [Value.ownBlock])); have c51 : w1.cell? ⟨R, 5, none⟩ = some (.slice A n cc) := (hR1.out.keep hG2.out).c5; clear hg1)
    | (refine step_join rfl _ _ 53 rfl W.heap.size 23 i0 Tryz.underlying53 hi0 hz0 hz1 hz2 v1 ([] ++ S.rs) (by go_simp) (hown1.keep (World.grownBy_alloc _ _ none)) (some ⟨w1.heap.size, 0, none⟩) 1 1 _ _ [v] (by go_simp) (SlA.made w1 .u32 [v] _ _ rfl) rfl (by omega) (by simp [hn.out]; omega) (Nat.le_trans hG2.out.size (by simp)) ?_; intro v2 w2 hown2 hg2; have hW2 := grown_row (grown_alloc hG2.out _) (hown1.keep (World.grownBy_alloc _ _ none)) (Nat.le_refl _) hg2; obtain ⟨A2, c2, e2, -⟩ := hown2.form; obtain ⟨hu0, hf0, hP⟩ := finR hR1.out hG1.out hown2 hW2 (by simp [hn.out]; omega); subst e2; replace hP := Lib.hid hP; clear hown2 hg2 hW2)
    | (refine step_join rfl _ _ 53 rfl W.heap.size 23 i0 Tryz.underlying53 hi0 hz0 hz1 hz2 v1 ([] ++ S.rs) (by go_simp) hown1 (some ⟨W.heap.size, 0, none⟩) 1 1 _ _ [v] (by go_simp) hs1.out rfl (by omega) (by simp [hn.out]; omega) hG2.out.size ?_; intro v2 w2 hown2 hg2; have hW2 := grown_row hG2.out hown1 (Nat.le_refl _) hg2; obtain ⟨A2, c2, e2, -⟩ := hown2.form; obtain ⟨hu0, hf0, hP⟩ := finR hR1.out hG1.out hown2 hW2 (by simp [hn.out]; omega); subst e2; replace hP := Lib.hid hP; clear hown2 hg2 hW2))
  all_goals
    go_wp2_with fail
    go_ret2
    exact ⟨rfl, Post.back hG1.out (by simpa using hP.out)⟩
set_option maxRecDepth 100000 in
set_option maxHeartbeats 8000000 in
theorem more_push (h : RQ w R vr vo S) (m : Nat) (hm : S.a = m) (hm2 : m ≤ 64) (hl : S.rs.length < m) (who hh v x t : Int) : Calls Tryz.prog 22 #[.pointer (some ⟨R, 0, none⟩), .int .u32 who, askV 8 hh v x t] w fun e w' => e = .returned (.tuple #[.int .u32 0, .int .i64 0]) ∧ Post w R vr vo { S with rs := v :: S.rs } w' := by
  obtain ⟨i0, hi0, hz0, hz1, hz2⟩ := info_parts infoW
  obtain ⟨n, hn⟩ : ∃ n, S.rs.length = n := ⟨_, rfl⟩
  obtain ⟨A, cc, rfl, hcc, hcm, hsl, hcl⟩ := h.openR hn
  have hg0 := Lib.hid (World.grownBy_alloc w (.cells #[.int .u8 8, .int .u32 hh, .int .u32 v, .int .u32 x, .int .i64 t] 39) none)
  have hB := World.alloc_heap_new w (.cells #[.int .u8 8, .int .u32 hh, .int .u32 v, .int .u32 x, .int .i64 t] 39)
  have hR := Lib.hid (h.keep hg0.out)
  have hne : R ≠ w.heap.size := by have := h.lt R (.inl rfl); omega
  have hRl : R < w.heap.size := h.lt R (.inl rfl)
  have c1 := hR.out.c1
  have c5 := hR.out.c5
  have b0 := cell_of (i := 0) (v := .int .u8 8) hB rfl
  have b2 := cell_of (i := 2) (v := .int .u32 v) hB rfl
  have b3 := cell_of (i := 3) (v := .int .u32 x) hB rfl
  unfold askV
  go_enter Tryz.func22, Tryz.ntmps22
  rw [hm] at c1
  rw [hn] at hl
  have hw : IntKind.i64.wrap (m : Int) = m := by rw [IntKind.wrap_i64]; omega
  have ht : decide ((m : Int) ≤ (n : Int)) = false := decide_eq_false (by omega)
  have ht2 : ¬ (m : Int) ≤ (n : Int) := by omega
  have hn64 : n < 64 := by omega
  clear h hsl hcl hcc hcm hm hl hm2
  go_wp2_with fail
  generalize w.alloc (.cells #[.int .u8 8, .int .u32 hh, .int .u32 v, .int .u32 x, .int .i64 t] 39) = W0 at *
  generalize w.heap.size = Z at *
  replace hB := Lib.hid hB
  replace hne := Lib.hid hne
  go_quiet (fail)
  have hR1 : RQ (W0.drewN nq) R (.slice A n cc) vo S := hR.out.keep (grown_drewN (grown_refl _ _) nq)
  have hG1 : w.grownBy (W0.drewN nq) none := grown_drewN hg0.out nq
  have hB1 : (W0.drewN nq).heap[Z]? = _ := hB.out
  generalize W0.drewN nq = W at *
  clear c1 c5 b0 b2 b3 hR hg0 hB
  have c5 := hR1.c5
  have z5 := hR1.fz 5
  have b0 := cell_of (i := 0) (v := .int .u8 8) hB1 rfl
  have b2 := cell_of (i := 2) (v := .int .u32 v) hB1 rfl
  have hsl : SlA W 0 W.heap.size .u32 A S.rs := by
    obtain ⟨A', c', e, h9⟩ := hR1.openR hn
    cases e; exact h9.2.2.1
  have hRl2 : R < W.heap.size := hR1.lt R (.inl rfl)
  have hZl2 : Z < W.heap.size := (Array.getElem?_eq_some_iff.1 hB1).1
  replace hR1 := Lib.hid hR1
  replace hG1 := Lib.hid hG1
  replace hB1 := Lib.hid hB1
  replace hsl := Lib.hid hsl
  replace hn := Lib.hid hn
  clear hw hne
  go_wp2_with fail
  clear ht ht2
  go_region_law (first
    | (refine step_join rfl _ _ 53 rfl W.heap.size 23 i0 Tryz.underlying53 hi0 hz0 hz1 hz2 (.slice (some ⟨W.heap.size, 0, none⟩) 1 1) [v] (by go_simp) (one_row W.drew v _) A n cc 0 W.heap.size S.rs (by go_simp) (SlA.alloc hsl.out _) hn.out (by omega) (by simp) (by simp) ?_; intro v2 w2 hown2 hg2; have hW2 : W.grownBy w2 none := grown_row (WA := W.drew.alloc (.cells #[.int .u32 v] 23)) (grown_alloc (grown_drewN (grown_refl W none) 1) _) (one_row W.drew v _) (Nat.le_refl _) hg2; obtain ⟨A2, c2, e2, -⟩ := hown2.form; obtain ⟨hu0, hf0, hP⟩ := finR hR1.out hG1.out hown2 hW2 (by simp [hn.out]; omega); subst e2; replace hP := Lib.hid hP; clear hown2 hg2 hW2))
  all_goals
    go_wp2_with fail
    go_ret2
    exact ⟨rfl, Post.back hG1.out (by simpa using hP.out)⟩
set_option maxRecDepth 100000 in
set_option maxHeartbeats 8000000 in
theorem more_get_no (h : RQ w R vr vo S) (hl : S.rs = []) (who hh v x t : Int) : Calls Tryz.prog 22 #[.pointer (some ⟨R, 0, none⟩), .int .u32 who, askV 9 hh v x t] w fun e w' => e = .returned (.tuple #[.int .u32 0, .int .i64 7]) ∧ w.grownBy w' none := by
  obtain ⟨n, hn⟩ : ∃ n, S.rs.length = n := ⟨_, rfl⟩
  obtain ⟨A, cc, rfl, hcc, hcm, hsl, hcl⟩ := h.openR hn
  have hg0 := Lib.hid (World.grownBy_alloc w (.cells #[.int .u8 9, .int .u32 hh, .int .u32 v, .int .u32 x, .int .i64 t] 39) none)
  have hB := World.alloc_heap_new w (.cells #[.int .u8 9, .int .u32 hh, .int .u32 v, .int .u32 x, .int .i64 t] 39)
  have hR := Lib.hid (h.keep hg0.out)
  have hne : R ≠ w.heap.size := by have := h.lt R (.inl rfl); omega
  have hRl : R < w.heap.size := h.lt R (.inl rfl)
  have c5 := hR.out.c5
  have b0 := cell_of (i := 0) (v := .int .u8 9) hB rfl
  have b2 := cell_of (i := 2) (v := .int .u32 v) hB rfl
  have b3 := cell_of (i := 3) (v := .int .u32 x) hB rfl
  unfold askV
  go_enter Tryz.func22, Tryz.ntmps22
  have h0 : n = 0 := by rw [← hn, hl]; rfl
  subst h0
  clear h hsl hcl hcc hcm hl hn
  go_wp2_with fail
  go_ret2
  exact ⟨rfl, hg0.out⟩
set_option maxRecDepth 100000 in
set_option maxHeartbeats 8000000 in
theorem more_peek_no (h : RQ w R vr vo S) (hl : S.rs = []) (who hh v x t : Int) : Calls Tryz.prog 22 #[.pointer (some ⟨R, 0, none⟩), .int .u32 who, askV 10 hh v x t] w fun e w' => e = .returned (.tuple #[.int .u32 0, .int .i64 11]) ∧ w.grownBy w' none := by
  obtain ⟨n, hn⟩ : ∃ n, S.rs.length = n := ⟨_, rfl⟩
  obtain ⟨A, cc, rfl, hcc, hcm, hsl, hcl⟩ := h.openR hn
  have hg0 := Lib.hid (World.grownBy_alloc w (.cells #[.int .u8 10, .int .u32 hh, .int .u32 v, .int .u32 x, .int .i64 t] 39) none)
  have hB := World.alloc_heap_new w (.cells #[.int .u8 10, .int .u32 hh, .int .u32 v, .int .u32 x, .int .i64 t] 39)
  have hR := Lib.hid (h.keep hg0.out)
  have hne : R ≠ w.heap.size := by have := h.lt R (.inl rfl); omega
  have hRl : R < w.heap.size := h.lt R (.inl rfl)
  have c5 := hR.out.c5
  have b0 := cell_of (i := 0) (v := .int .u8 10) hB rfl
  have b2 := cell_of (i := 2) (v := .int .u32 v) hB rfl
  have b3 := cell_of (i := 3) (v := .int .u32 x) hB rfl
  unfold askV
  go_enter Tryz.func22, Tryz.ntmps22
  have h0 : n = 0 := by rw [← hn, hl]; rfl
  subst h0
  clear h hsl hcl hcc hcm hl hn
  go_wp2_with fail
  go_ret2
  exact ⟨rfl, hg0.out⟩
set_option maxRecDepth 100000 in
set_option maxHeartbeats 8000000 in
theorem more_peek (h : RQ w R vr vo S) {u : Int} {ms : List Int} (hl : S.rs = u :: ms) (who hh v x t : Int) : Calls Tryz.prog 22 #[.pointer (some ⟨R, 0, none⟩), .int .u32 who, askV 10 hh v x t] w fun e w' => e = .returned (.tuple #[.int .u32 u, .int .i64 0]) ∧ w.grownBy w' none := by
  obtain ⟨n, hn⟩ : ∃ n, ms.length = n := ⟨_, rfl⟩
  obtain ⟨A, cc, rfl, hcc, hcm, hsl, hcl⟩ := h.openR (n := n + 1) (by rw [hl]; simp [hn])
  obtain ⟨M, rfl, hcM⟩ := hcl.resolve_left (by omega)
  have hc0 := hcM 0 (by omega)
  clear hcM
  rw [hl] at hc0
  have hg00 : gd (u :: ms) 0 = u := rfl
  rw [hg00] at hc0
  have hMl : M < w.heap.size := by
    have := h.lt M (.inr (.inl rfl)); exact this
  have hg0 := Lib.hid (World.grownBy_alloc w (.cells #[.int .u8 10, .int .u32 hh, .int .u32 v, .int .u32 x, .int .i64 t] 39) none)
  have hB := World.alloc_heap_new w (.cells #[.int .u8 10, .int .u32 hh, .int .u32 v, .int .u32 x, .int .i64 t] 39)
  have hR := Lib.hid (h.keep hg0.out)
  have hne : R ≠ w.heap.size := by have := h.lt R (.inl rfl); omega
  have hRl : R < w.heap.size := h.lt R (.inl rfl)
  have c5 := hR.out.c5
  have b0 := cell_of (i := 0) (v := .int .u8 10) hB rfl
  have b2 := cell_of (i := 2) (v := .int .u32 v) hB rfl
  have b3 := cell_of (i := 3) (v := .int .u32 x) hB rfl
  unfold askV
  go_enter Tryz.func22, Tryz.ntmps22
  have hcu := grown_cell hg0.out hc0
  have e1 : ((n + 1 : Nat) : Int) = (n : Int) + 1 := by push_cast; rfl
  have e2 : (0 : Int) ≤ (n : Int) := Int.natCast_nonneg _
  have e3 : (((n + 1 : Nat) : Int) == 0) = false := by rw [beq_eq_false_iff_ne]; omega
  clear h hsl hcl hcc hcm hl hn hc0
  go_wp2_with fail
  go_ret2
  exact ⟨rfl, hg0.out⟩
set_option maxRecDepth 100000 in
set_option maxHeartbeats 8000000 in
theorem more_get (h : RQ w R vr vo S) {u : Int} {ms : List Int} (hl : S.rs = u :: ms) (who hh v x t : Int) : Calls Tryz.prog 22 #[.pointer (some ⟨R, 0, none⟩), .int .u32 who, askV 9 hh v x t] w fun e w' => e = .returned (.tuple #[.int .u32 u, .int .i64 0]) ∧ Post w R vr vo { S with rs := ms } w' := by
  obtain ⟨i0, hi0, hz0, hz1, hz2⟩ := info_parts infoW
  have h64 : ms.length ≤ 64 := by have := h.l1; rw [hl] at this; simp at this; omega
  obtain ⟨n, hn⟩ : ∃ n, ms.length = n := ⟨_, rfl⟩
  obtain ⟨A, cc, rfl, hcc, hcm, hsl, hcl⟩ := h.openR (n := n + 1) (by rw [hl]; simp [hn])
  obtain ⟨M, rfl, hcM⟩ := hcl.resolve_left (by omega)
  have hc0 := hcM 0 (by omega)
  clear hcM
  rw [hl] at hc0
  have hg00 : gd (u :: ms) 0 = u := rfl
  rw [hg00] at hc0
  have hMl : M < w.heap.size := by
    have := h.lt M (.inr (.inl rfl)); exact this
  have hg0 := Lib.hid (World.grownBy_alloc w (.cells #[.int .u8 9, .int .u32 hh, .int .u32 v, .int .u32 x, .int .i64 t] 39) none)
  have hB := World.alloc_heap_new w (.cells #[.int .u8 9, .int .u32 hh, .int .u32 v, .int .u32 x, .int .i64 t] 39)
  have hR := Lib.hid (h.keep hg0.out)
  have hne : R ≠ w.heap.size := by have := h.lt R (.inl rfl); omega
  have hRl : R < w.heap.size := h.lt R (.inl rfl)
  have c5 := hR.out.c5
  have b0 := cell_of (i := 0) (v := .int .u8 9) hB rfl
  have b2 := cell_of (i := 2) (v := .int .u32 v) hB rfl
  have b3 := cell_of (i := 3) (v := .int .u32 x) hB rfl
  unfold askV
  go_enter Tryz.func22, Tryz.ntmps22
  have hcu := grown_cell hg0.out hc0
  have hsl2 : ∀ W, w.grownBy W none → SlA W 0 w.heap.size .u32 (some ⟨M, 1, none⟩) ms := fun W hg => by
    have h9 := hsl.kept hg (by simp)
    rw [hl] at h9
    refine ⟨h9.1, .inr ⟨M, 1, rfl, Nat.zero_le _, hMl, fun i hi => ?_⟩⟩
    have := h9.cell (i := i + 1) (by simp; omega)
    rw [Nat.zero_add, Nat.add_comm i 1] at this
    rw [this, Nat.add_comm 1 i, gd_lt (by simp; omega)]; rfl
  have hsl3 : n = 0 → ∀ W, w.grownBy W none → SlA W 0 w.heap.size .u32 (some ⟨M, 0, none⟩) ms := fun h0 W hg => by
    have : ms = [] := List.length_eq_zero_iff.1 (hn.trans h0)
    subst this
    exact ⟨hg.size, .inl rfl⟩
  have e1 : ((n + 1 : Nat) : Int) = (n : Int) + 1 := by push_cast; rfl
  have e2 : (0 : Int) ≤ (n : Int) := Int.natCast_nonneg _
  have e3 : (((n + 1 : Nat) : Int) == 0) = false := by rw [beq_eq_false_iff_ne]; omega
  have hn64 : n ≤ 64 := by omega
  have hz : cc = 1 → n = 0 := by omega
  replace hsl2 := Lib.hid hsl2
  replace hsl3 := Lib.hid hsl3
  replace hn := Lib.hid hn
  replace hz := Lib.hid hz
  clear h hsl hcl hcm hl hc0 h64
  have hslI : Hid (SlA (w.alloc (.cells #[.int .u8 9, .int .u32 hh, .int .u32 v, .int .u32 x, .int .i64 t] 39)) 0 w.heap.size .u32 (if cc = 1 then some ⟨M, 0, none⟩ else some ⟨M, 1, none⟩) ms) := by
    by_cases e : cc = 1
    · rw [if_pos e]; exact hsl3.out (hz.out e) _ hg0.out
    · rw [if_neg e]; exact hsl2.out _ hg0.out
  clear hsl2 hsl3 hz
  go_wp2_with (at_builtin; (refine wpList_join rfl _ _ 53 rfl (w.alloc (.cells #[.int .u8 9, .int .u32 hh, .int .u32 v, .int .u32 x, .int .i64 t] 39)).heap.size 23 i0 Tryz.underlying53 hi0 hz0 hz1 hz2 (.slice none 0 0) [] rfl (Mine.nil _ _ _ _) (if cc = 1 then some ⟨M, 0, none⟩ else some ⟨M, 1, none⟩) n _ 0 w.heap.size ms rfl hslI.out hn.out (by omega) (by simp) (Nat.le_refl _) ?_; intro v2 w2 hown2 hg2; obtain ⟨A2, c2, e2, -⟩ := hown2.form; obtain ⟨hu0, hf0, hP⟩ := finR hR.out hg0.out hown2 hg2 (by simp [hn.out]; omega); subst e2; replace hP := Lib.hid hP; clear hown2 hg2))
  all_goals
    go_ret2
    refine ⟨rfl, Post.back hg0.out ?_⟩
    have hP2 := hP.out
    first | (simpa using hP2) | (have h1 : cc = 1 := (by assumption); subst h1; simpa using hP2)
end RefO
end Go.Proofs.YtneamjaglgnmkaaGreatDoor
