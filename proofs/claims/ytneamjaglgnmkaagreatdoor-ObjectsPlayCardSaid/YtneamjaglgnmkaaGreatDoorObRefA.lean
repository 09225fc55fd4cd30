/- timekeeperref18: See. -/
import Derived.Test.YtneamjaglgnmkaaGreatDoorObRef9
namespace Go.Proofs.YtneamjaglgnmkaaGreatDoor
open Go.RowKit Go.Shelf Tk Tk.Msk
set_option linter.unusedVariables false
set_option linter.unusedSimpArgs false
namespace RefO
variable {w W : World} {R : Nat} {vr vo : Value} {S : TR}
theorem grown_drew (W : World) : W.grownBy W.drew none := grown_drewN (grown_refl _ _) 1
theorem grown_set10 {W W2 : World} {X : Nat} (h : W.grownBy W2 none) (hX : W.heap.size ≤ X) (v0 v1 v2 v3 v4 v5 v6 v7 v8 v9 : Value) : W.grownBy ((((((((((W2.setCell ⟨X, 0, none⟩ v0).setCell ⟨X, 1, none⟩ v1).setCell ⟨X, 2, none⟩ v2).setCell ⟨X, 3, none⟩ v3).setCell ⟨X, 4, none⟩ v4).setCell ⟨X, 5, none⟩ v5).setCell ⟨X, 6, none⟩ v6).setCell ⟨X, 7, none⟩ v7).setCell ⟨X, 8, none⟩ v8).setCell ⟨X, 9, none⟩ v9) none := by
  iterate 10 refine grown_step ?_ (grownBy_setCell _ _ _ _) hX
  exact h
theorem heap_set10 {W2 : World} {X : Nat} {T : TypeId} {z0 z1 z2 z3 z4 z5 z6 z7 z8 z9 : Value} (h : W2.heap[X]? = some (.cells #[z0, z1, z2, z3, z4, z5, z6, z7, z8, z9] T (0, 0))) (v0 v1 v2 v3 v4 v5 v6 v7 v8 v9 : Value) : ((((((((((W2.setCell ⟨X, 0, none⟩ v0).setCell ⟨X, 1, none⟩ v1).setCell ⟨X, 2, none⟩ v2).setCell ⟨X, 3, none⟩ v3).setCell ⟨X, 4, none⟩ v4).setCell ⟨X, 5, none⟩ v5).setCell ⟨X, 6, none⟩ v6).setCell ⟨X, 7, none⟩ v7).setCell ⟨X, 8, none⟩ v8).setCell ⟨X, 9, none⟩ v9).heap[X]? = some (.cells #[v0, v1, v2, v3, v4, v5, v6, v7, v8, v9] T (0, 0)) := by
  have h0 : (W2.setCell ⟨X, 0, none⟩ v0).heap[X]? = some (.cells #[v0, z1, z2, z3, z4, z5, z6, z7, z8, z9] T (0, 0)) := heap_set 0 _ h
  have h1 : ((W2.setCell ⟨X, 0, none⟩ v0).setCell ⟨X, 1, none⟩ v1).heap[X]? = some (.cells #[v0, v1, z2, z3, z4, z5, z6, z7, z8, z9] T (0, 0)) := heap_set 1 _ h0
  have h2 : (((W2.setCell ⟨X, 0, none⟩ v0).setCell ⟨X, 1, none⟩ v1).setCell ⟨X, 2, none⟩ v2).heap[X]? = some (.cells #[v0, v1, v2, z3, z4, z5, z6, z7, z8, z9] T (0, 0)) := heap_set 2 _ h1
  have h3 : ((((W2.setCell ⟨X, 0, none⟩ v0).setCell ⟨X, 1, none⟩ v1).setCell ⟨X, 2, none⟩ v2).setCell ⟨X, 3, none⟩ v3).heap[X]? = some (.cells #[v0, v1, v2, v3, z4, z5, z6, z7, z8, z9] T (0, 0)) := heap_set 3 _ h2
  have h4 : (((((W2.setCell ⟨X, 0, none⟩ v0).setCell ⟨X, 1, none⟩ v1).setCell ⟨X, 2, none⟩ v2).setCell ⟨X, 3, none⟩ v3).setCell ⟨X, 4, none⟩ v4).heap[X]? = some (.cells #[v0, v1, v2, v3, v4, z5, z6, z7, z8, z9] T (0, 0)) := heap_set 4 _ h3
  have h5 : ((((((W2.setCell ⟨X, 0, none⟩ v0).setCell ⟨X, 1, none⟩ v1).setCell ⟨X, 2, none⟩ v2).setCell ⟨X, 3, none⟩ v3).setCell ⟨X, 4, none⟩ v4).setCell ⟨X, 5, none⟩ v5).heap[X]? = some (.cells #[v0, v1, v2, v3, v4, v5, z6, z7, z8, z9] T (0, 0)) := heap_set 5 _ h4
  have h6 : (((((((W2.setCell ⟨X, 0, none⟩ v0).setCell ⟨X, 1, none⟩ v1).setCell ⟨X, 2, none⟩ v2).setCell ⟨X, 3, none⟩ v3).setCell ⟨X, 4, none⟩ v4).setCell ⟨X, 5, none⟩ v5).setCell ⟨X, 6, none⟩ v6).heap[X]? = some (.cells #[v0, v1, v2, v3, v4, v5, v6, z7, z8, z9] T (0, 0)) := heap_set 6 _ h5
  have h7 : ((((((((W2.setCell ⟨X, 0, none⟩ v0).setCell ⟨X, 1, none⟩ v1).setCell ⟨X, 2, none⟩ v2).setCell ⟨X, 3, none⟩ v3).setCell ⟨X, 4, none⟩ v4).setCell ⟨X, 5, none⟩ v5).setCell ⟨X, 6, none⟩ v6).setCell ⟨X, 7, none⟩ v7).heap[X]? = some (.cells #[v0, v1, v2, v3, v4, v5, v6, v7, z8, z9] T (0, 0)) := heap_set 7 _ h6
  have h8 : (((((((((W2.setCell ⟨X, 0, none⟩ v0).setCell ⟨X, 1, none⟩ v1).setCell ⟨X, 2, none⟩ v2).setCell ⟨X, 3, none⟩ v3).setCell ⟨X, 4, none⟩ v4).setCell ⟨X, 5, none⟩ v5).setCell ⟨X, 6, none⟩ v6).setCell ⟨X, 7, none⟩ v7).setCell ⟨X, 8, none⟩ v8).heap[X]? = some (.cells #[v0, v1, v2, v3, v4, v5, v6, v7, v8, z9] T (0, 0)) := heap_set 8 _ h7
  have h9 : ((((((((((W2.setCell ⟨X, 0, none⟩ v0).setCell ⟨X, 1, none⟩ v1).setCell ⟨X, 2, none⟩ v2).setCell ⟨X, 3, none⟩ v3).setCell ⟨X, 4, none⟩ v4).setCell ⟨X, 5, none⟩ v5).setCell ⟨X, 6, none⟩ v6).setCell ⟨X, 7, none⟩ v7).setCell ⟨X, 8, none⟩ v8).setCell ⟨X, 9, none⟩ v9).heap[X]? = some (.cells #[v0, v1, v2, v3, v4, v5, v6, v7, v8, v9] T (0, 0)) := heap_set 9 _ h8
  exact h9
theorem mine_set10 {W2 : World} {X base : Nat} {T : TypeId} {v : Value} {xs : List Int} (h : Mine W2 base T .u32 v xs) (hX : v.ownBlock ≠ some X) (v0 v1 v2 v3 v4 v5 v6 v7 v8 v9 : Value) : Mine ((((((((((W2.setCell ⟨X, 0, none⟩ v0).setCell ⟨X, 1, none⟩ v1).setCell ⟨X, 2, none⟩ v2).setCell ⟨X, 3, none⟩ v3).setCell ⟨X, 4, none⟩ v4).setCell ⟨X, 5, none⟩ v5).setCell ⟨X, 6, none⟩ v6).setCell ⟨X, 7, none⟩ v7).setCell ⟨X, 8, none⟩ v8).setCell ⟨X, 9, none⟩ v9) base T .u32 v xs := by
  iterate 10 refine Mine.kept ?_ (grownBy_setCell _ _ _ _) (.inr hX)
  exact h
/-- What the reference's See holds, as it goes on: X is the thing that it makes. -/
structure SeeF (W Wf : World) (X : Nat) (k : Nat) (a b c o : Int) (u1 u2 : Value) (rs os : List Int) : Prop where
  hx : Wf.heap[X]? = some (.cells #[.int .u32 0, .int .u8 k, .int .u32 a, .int .u32 b, .int .u32 c, .int .u32 o, u1, u2, .int .i64 0, .slice none 0 0] 55 (0, 0))
  m1 : Mine Wf W.heap.size 23 .u32 u1 rs
  m2 : Mine Wf W.heap.size 23 .u32 u2 os
  ap : Apart u1 u2
  g : W.grownBy Wf none
  lo : W.heap.size ≤ X
  n1 : u1.ownBlock ≠ some X
  n2 : u2.ownBlock ≠ some X
theorem SeeF.set {W Wf : World} {X k : Nat} {a b c o : Int} {u1 u2 : Value} {rs os : List Int} (h : SeeF W Wf X k a b c o u1 u2 rs os) (x : Int) : SeeF W (Wf.setCell ⟨X, 4, none⟩ (.int .u32 x)) X k a b x o u1 u2 rs os :=
  ⟨heap_set 4 _ h.hx, h.m1.kept (grownBy_setCell _ _ _ _) (.inr h.n1), h.m2.kept (grownBy_setCell _ _ _ _) (.inr h.n2), h.ap, grown_step h.g (grownBy_setCell _ _ _ _) h.lo, h.lo, h.n1, h.n2⟩
theorem see_mk {W w1 w2 : World} {b1 b2 : Nat} {u1 u2 : Value} {rs os : List Int} (h1 : Mine w1 b1 23 .u32 u1 ([] ++ rs)) (hb1 : W.heap.size ≤ b1) (hG1 : W.grownBy w1 none) (h2 : Mine w2 b2 23 .u32 u2 ([] ++ os)) (hb2 : w1.heap.size ≤ b2) (hG2 : W.grownBy w2 none) (hg : w1.grownBy w2 none) :
    Mine w2 W.heap.size 23 .u32 u1 rs ∧ Mine w2 W.heap.size 23 .u32 u2 os ∧ Apart u1 u2 ∧ W.grownBy w2 none := by
  rw [List.nil_append] at h1 h2
  refine ⟨(h1.low hb1).keep hg, h2.low (Nat.le_trans hG1.size hb2), ?_, hG2⟩
  rcases e : u1.ownBlock with _ | b
  · exact .inl e
  · right; rw [e]; intro e2
    have := (World.ownsRow.lt h1 b e).2
    have := (World.ownsRow.lt h2 b e2.symm).1
    omega
theorem see1 {W w1 w2 : World} {u1 u2 : Value} {rs os : List Int} (k : Nat) (a b o : Int) (h1 : Mine w1 W.heap.size 23 .u32 u1 ([] ++ rs)) (hG1 : W.grownBy w1 none) (h2 : Mine w2 w1.heap.size 23 .u32 u2 ([] ++ os)) (hG2 : W.grownBy w2 none) (hg : w1.grownBy w2 none) :
    SeeF W (w2.alloc (.cells #[.int .u32 0, .int .u8 k, .int .u32 a, .int .u32 b, .int .u32 0, .int .u32 o, u1, u2, .int .i64 0, .slice none 0 0] 55)) w2.heap.size k a b 0 o u1 u2 rs os := by
  obtain ⟨m1, m2, ap, g⟩ := see_mk h1 (Nat.le_refl _) hG1 h2 (Nat.le_refl _) hG2 hg
  refine ⟨World.alloc_heap_new w2 _, m1.keep (World.grownBy_alloc _ _ _), m2.keep (World.grownBy_alloc _ _ _), ap, grown_alloc g _, g.size, fun e => ?_, fun e => ?_⟩
  · have := (World.ownsRow.lt m1 _ e).2; omega
  · have := (World.ownsRow.lt m2 _ e).2; omega
theorem see2 {W w1 w2 : World} {X b1 b2 : Nat} {u1 u2 : Value} {rs os : List Int} {z0 z1 z2 z3 z4 z5 z6 z7 z8 z9 : Value} (k : Nat) (a b o : Int) (h1 : Mine w1 b1 23 .u32 u1 ([] ++ rs)) (hb1 : W.heap.size ≤ b1) (hG1 : W.grownBy w1 none) (h2 : Mine w2 b2 23 .u32 u2 ([] ++ os)) (hb2 : w1.heap.size ≤ b2) (hG2 : W.grownBy w2 none) (hg : w1.grownBy w2 none)
    (hX : w2.heap[X]? = some (.cells #[z0, z1, z2, z3, z4, z5, z6, z7, z8, z9] 55 (0, 0))) (hlo : W.heap.size ≤ X) (hn1 : w1.heap.size ≤ X ∨ X < b1) (hn2 : X < b2) :
    SeeF W ((((((((((w2.setCell ⟨X, 0, none⟩ (.int .u32 0)).setCell ⟨X, 1, none⟩ (.int .u8 k)).setCell ⟨X, 2, none⟩ (.int .u32 a)).setCell ⟨X, 3, none⟩ (.int .u32 b)).setCell ⟨X, 4, none⟩ (.int .u32 0)).setCell ⟨X, 5, none⟩ (.int .u32 o)).setCell ⟨X, 6, none⟩ (u1)).setCell ⟨X, 7, none⟩ (u2)).setCell ⟨X, 8, none⟩ (.int .i64 0)).setCell ⟨X, 9, none⟩ (.slice none 0 0)) X k a b 0 o u1 u2 rs os := by
  obtain ⟨m1, m2, ap, g⟩ := see_mk h1 hb1 hG1 h2 hb2 hG2 hg
  have n1 : u1.ownBlock ≠ some X := fun e => by
    have := World.ownsRow.lt h1 _ e; omega
  have n2 : u2.ownBlock ≠ some X := fun e => by
    have := World.ownsRow.lt h2 _ e; omega
  exact ⟨heap_set10 hX _ _ _ _ _ _ _ _ _ _, mine_set10 m1 n1 _ _ _ _ _ _ _ _ _ _, mine_set10 m2 n2 _ _ _ _ _ _ _ _ _ _, ap, grown_set10 g hlo _ _ _ _ _ _ _ _ _ _, hlo, n1, n2⟩
set_option maxRecDepth 100000 in
set_option maxHeartbeats 16000000 in
theorem rsee_x (h : RQ w R vr vo S) (hk : ((S.k : Int) == 1) = false ∧ ((S.k : Int) == 4) = false) : Calls Tryz.prog 13 #[.pointer (some ⟨R, 0, none⟩)] w fun e w' =>
    ∃ u1 u2, e = .returned (thV S.k S.a S.b (S.os.count 0) S.o u1 u2) ∧ Mine w' w.heap.size 23 .u32 u1 S.rs ∧ Mine w' w.heap.size 23 .u32 u2 S.os ∧ Apart u1 u2 ∧ w.grownBy w' none := by
  obtain ⟨i0, hi0, hz0, hz1, hz2⟩ := info_parts infoW
  obtain ⟨k1, k4⟩ := hk
  obtain ⟨n, hn⟩ : ∃ n, S.os.length = n := ⟨_, rfl⟩
  obtain ⟨A, cc, rfl, hcc, hcm, hsA, -⟩ := h.openO hn
  have hn64 : n ≤ 64 := by have := h.l2; omega
  obtain ⟨nr, hnr⟩ : ∃ nr, S.rs.length = nr := ⟨_, rfl⟩
  obtain ⟨Ar, ccr, rfl, hccr, hcmr, hsR, -⟩ := h.openR hnr
  have hnr64 : nr ≤ 64 := by have := h.l1; omega
  have hRl : R < w.heap.size := h.lt R (.inl rfl)
  have hne : R ≠ w.heap.size := by omega
  have hg0 := Lib.hid (World.grownBy_alloc w (.cells #[.int .u32 0, .int .u8 0, .int .u32 0, .int .u32 0, .int .u32 0, .int .u32 0, .slice none 0 0, .slice none 0 0, .int .i64 0, .slice none 0 0] 55) none)
  have hY := World.alloc_heap_new w (.cells #[.int .u32 0, .int .u8 0, .int .u32 0, .int .u32 0, .int .u32 0, .int .u32 0, .slice none 0 0, .slice none 0 0, .int .i64 0, .slice none 0 0] 55)
  have hR := Lib.hid (h.keep hg0.out)
  have hsz : (w.alloc (.cells #[.int .u32 0, .int .u8 0, .int .u32 0, .int .u32 0, .int .u32 0, .int .u32 0, .slice none 0 0, .slice none 0 0, .int .i64 0, .slice none 0 0] 55)).heap.size = w.heap.size + 1 := World.size_alloc _ _
  clear h hcc hcm hsA hccr hcmr hsR
  go_enter Tryz.func13, Tryz.ntmps13
  go_wp2_with fail
  generalize w.alloc (.cells #[.int .u32 0, .int .u8 0, .int .u32 0, .int .u32 0, .int .u32 0, .int .u32 0, .slice none 0 0, .slice none 0 0, .int .i64 0, .slice none 0 0] 55) = W at *
  obtain ⟨Y, hYe⟩ : ∃ Y, w.heap.size = Y := ⟨_, rfl⟩
  rw [hYe] at hne hRl hY hsz ⊢
  have r0 := hR.out.c0
  have r1 := hR.out.c1
  have r2 := hR.out.c2
  have r4 := hR.out.c4
  have r5 := hR.out.c5
  have r6 := hR.out.c6
  have hsA : SlA W 0 W.heap.size .u32 A S.os := by
    obtain ⟨A', c', e, -, -, h9, -⟩ := hR.out.openO hn
    cases e; exact h9
  have hsR : SlA W 0 W.heap.size .u32 Ar S.rs := by
    obtain ⟨A', c', e, -, -, h9, -⟩ := hR.out.openR hnr
    cases e; exact h9
  replace hsA := Lib.hid hsA
  replace hsR := Lib.hid hsR
  replace hn := Lib.hid hn
  replace hnr := Lib.hid hnr
  replace hY := Lib.hid hY
  replace hYe := Lib.hid hYe
  replace hne := Lib.hid hne
  have hKeep : ∀ W', W.grownBy W' none → W'.cell? ⟨R, 0, none⟩ = some (.int .u8 S.k) ∧ W'.cell? ⟨R, 1, none⟩ = some (.int .u32 S.a) ∧ W'.cell? ⟨R, 2, none⟩ = some (.int .u32 S.b) ∧ W'.cell? ⟨R, 4, none⟩ = some (.int .u32 S.o) ∧ W'.cell? ⟨R, 5, none⟩ = some (.slice Ar nr ccr) ∧ W'.cell? ⟨R, 6, none⟩ = some (.slice A n cc) :=
    fun W' hg => ⟨grown_cell hg r0, grown_cell hg r1, grown_cell hg r2, grown_cell hg r4, grown_cell hg r5, grown_cell hg r6⟩
  replace hKeep := Lib.hid hKeep
  have hRW : R < W.heap.size := by omega
  replace hsz := Lib.hid hsz
  go_region_held3 (fun w' => w'.cell? ⟨R, 0, none⟩ = some (.int .u8 S.k) ∧ w'.cell? ⟨R, 1, none⟩ = some (.int .u32 S.a) ∧ w'.cell? ⟨R, 2, none⟩ = some (.int .u32 S.b) ∧ w'.cell? ⟨R, 4, none⟩ = some (.int .u32 S.o) ∧ w'.cell? ⟨R, 5, none⟩ = some (.slice Ar nr ccr) ∧ w'.cell? ⟨R, 6, none⟩ = some (.slice A n cc))
    (first | with_reducible exact hKeep.out _ hG2.out | with_reducible exact hKeep.out _ hG1.out | with_reducible exact hKeep.out _ (grown_drew W) | with_reducible exact hKeep.out _ (grown_alloc hG2.out _) | with_reducible exact hKeep.out _ (grown_alloc hG1.out _) | with_reducible exact hKeep.out _ (grown_alloc (grown_drew W) _) | with_reducible exact hKeep.out _ (grown_set10 hG2.out (Nat.le_refl _) _ _ _ _ _ _ _ _ _ _) | with_reducible exact hKeep.out _ (grown_set10 hG2.out hG1.out.size _ _ _ _ _ _ _ _ _ _) | exact hKeep.out _ (grown_drew W) | exact hKeep.out _ (grown_alloc (grown_drew W) _))
    (first
    | (refine step_join rfl _ _ 53 rfl W.heap.size 23 i0 Tryz.underlying53 hi0 hz0 hz1 hz2 (.slice none 0 0) [] (by go_simp) (Mine.nil _ _ _ _) Ar nr ccr 0 W.heap.size S.rs (by go_simp) (hsR.out) hnr.out (by omega) (by simp) (Nat.le_refl _) ?_; intro v1 w1 hown1 hg1; have hG1 : Hid (W.grownBy w1 none) := grown_undrew hg1; clear hg1; obtain ⟨A1, c1, e1, -⟩ := hown1.form; subst e1; replace hown1 := Lib.hid hown1)
    | (refine step_join rfl _ _ 53 rfl (W.drew.alloc (.cells #[.int .u32 0, .int .u8 0, .int .u32 0, .int .u32 0, .int .u32 0, .int .u32 0, .slice none 0 0, .slice none 0 0, .int .i64 0, .slice none 0 0] 55)).heap.size 23 i0 Tryz.underlying53 hi0 hz0 hz1 hz2 (.slice none 0 0) [] (by go_simp) (Mine.nil _ _ _ _) Ar nr ccr 0 W.heap.size S.rs (by go_simp) (SlA.alloc hsR.out _) hnr.out (by omega) (by simp) (Nat.le_refl _) ?_; intro v1 w1 hown1 hg1; have hG1 : Hid (W.grownBy w1 none) := grown_undrew (grown_trans (World.grownBy_alloc _ _ none) hg1); have hX1 := Lib.hid ((hg1.block W.heap.size (by simp) (by simp [Value.ownBlock])).trans (World.alloc_heap_new W.drew (.cells #[.int .u32 0, .int .u8 0, .int .u32 0, .int .u32 0, .int .u32 0, .int .u32 0, .slice none 0 0, .slice none 0 0, .int .i64 0, .slice none 0 0] 55))); have hXl1 : W.heap.size < w1.heap.size := (Array.getElem?_eq_some_iff.1 hX1.out).1; clear hg1; obtain ⟨A1, c1, e1, -⟩ := hown1.form; subst e1; replace hown1 := Lib.hid hown1)
    | (refine step_join rfl _ _ 53 rfl w1.heap.size 23 i0 Tryz.underlying53 hi0 hz0 hz1 hz2 (.slice none 0 0) [] (by go_simp) (Mine.nil _ _ _ _) A n cc 0 W.heap.size S.os (by go_simp) (hsA.out.kept hG1.out (by simp)) hn.out (by omega) (by simp) (Nat.le_refl _) ?_; intro v2 w2 hown2 hg2; have hG2 : Hid (W.grownBy w2 none) := grown_trans hG1.out hg2; have hX2 := (hg2.block W.heap.size hXl1 (by simp [Value.ownBlock])).trans hX1.out; have x0 := cell_of (i := 0) (v := .int .u32 0) hX2 rfl; have xz0 := frozen_of (i := 0) hX2; have x1 := cell_of (i := 1) (v := .int .u8 0) hX2 rfl; have xz1 := frozen_of (i := 1) hX2; have x2 := cell_of (i := 2) (v := .int .u32 0) hX2 rfl; have xz2 := frozen_of (i := 2) hX2; have x3 := cell_of (i := 3) (v := .int .u32 0) hX2 rfl; have xz3 := frozen_of (i := 3) hX2; have x4 := cell_of (i := 4) (v := .int .u32 0) hX2 rfl; have xz4 := frozen_of (i := 4) hX2; have x5 := cell_of (i := 5) (v := .int .u32 0) hX2 rfl; have xz5 := frozen_of (i := 5) hX2; have x6 := cell_of (i := 6) (v := .slice none 0 0) hX2 rfl; have xz6 := frozen_of (i := 6) hX2; have x7 := cell_of (i := 7) (v := .slice none 0 0) hX2 rfl; have xz7 := frozen_of (i := 7) hX2; have x8 := cell_of (i := 8) (v := .int .i64 0) hX2 rfl; have xz8 := frozen_of (i := 8) hX2; have x9 := cell_of (i := 9) (v := .slice none 0 0) hX2 rfl; have xz9 := frozen_of (i := 9) hX2; have hXl2 : W.heap.size < w2.heap.size := (Array.getElem?_eq_some_iff.1 hX2).1; replace hX2 := Lib.hid hX2; obtain ⟨A2, c2, e2, -⟩ := hown2.form; subst e2; replace hown2 := Lib.hid hown2; replace hg2 := Lib.hid hg2)
    | (refine step_join rfl _ _ 53 rfl w1.heap.size 23 i0 Tryz.underlying53 hi0 hz0 hz1 hz2 (.slice none 0 0) [] (by go_simp) (Mine.nil _ _ _ _) A n cc 0 W.heap.size S.os (by go_simp) (hsA.out.kept hG1.out (by simp)) hn.out (by omega) (by simp) (Nat.le_refl _) ?_; intro v2 w2 hown2 hg2; have hG2 : Hid (W.grownBy w2 none) := grown_trans hG1.out hg2; obtain ⟨A2, c2, e2, -⟩ := hown2.form; subst e2; replace hown2 := Lib.hid hown2; replace hg2 := Lib.hid hg2)
    | (refine step_join rfl _ _ 53 rfl (w1.alloc (.cells #[.int .u32 0, .int .u8 0, .int .u32 0, .int .u32 0, .int .u32 0, .int .u32 0, .slice none 0 0, .slice none 0 0, .int .i64 0, .slice none 0 0] 55)).heap.size 23 i0 Tryz.underlying53 hi0 hz0 hz1 hz2 (.slice none 0 0) [] (by go_simp) (Mine.nil _ _ _ _) A n cc 0 W.heap.size S.os (by go_simp) ((hsA.out.kept hG1.out (by simp)).alloc _) hn.out (by omega) (by simp) (Nat.le_refl _) ?_; intro v2 w2 hown2 hg2; have hG2 : Hid (W.grownBy w2 none) := grown_trans hG1.out (grown_trans (World.grownBy_alloc _ _ none) hg2); have hX2 := Lib.hid ((hg2.block w1.heap.size (by simp) (by simp [Value.ownBlock])).trans (World.alloc_heap_new w1 (.cells #[.int .u32 0, .int .u8 0, .int .u32 0, .int .u32 0, .int .u32 0, .int .u32 0, .slice none 0 0, .slice none 0 0, .int .i64 0, .slice none 0 0] 55))); have x0 := cell_of (i := 0) (v := .int .u32 0) hX2.out rfl; have xz0 := frozen_of (i := 0) hX2.out; have x1 := cell_of (i := 1) (v := .int .u8 0) hX2.out rfl; have xz1 := frozen_of (i := 1) hX2.out; have x2 := cell_of (i := 2) (v := .int .u32 0) hX2.out rfl; have xz2 := frozen_of (i := 2) hX2.out; have x3 := cell_of (i := 3) (v := .int .u32 0) hX2.out rfl; have xz3 := frozen_of (i := 3) hX2.out; have x4 := cell_of (i := 4) (v := .int .u32 0) hX2.out rfl; have xz4 := frozen_of (i := 4) hX2.out; have x5 := cell_of (i := 5) (v := .int .u32 0) hX2.out rfl; have xz5 := frozen_of (i := 5) hX2.out; have x6 := cell_of (i := 6) (v := .slice none 0 0) hX2.out rfl; have xz6 := frozen_of (i := 6) hX2.out; have x7 := cell_of (i := 7) (v := .slice none 0 0) hX2.out rfl; have xz7 := frozen_of (i := 7) hX2.out; have x8 := cell_of (i := 8) (v := .int .i64 0) hX2.out rfl; have xz8 := frozen_of (i := 8) hX2.out; have x9 := cell_of (i := 9) (v := .slice none 0 0) hX2.out rfl; have xz9 := frozen_of (i := 9) hX2.out; have hXl2 : w1.heap.size < w2.heap.size := (Array.getElem?_eq_some_iff.1 hX2.out).1; obtain ⟨A2, c2, e2, -⟩ := hown2.form; subst e2; replace hown2 := Lib.hid hown2; replace hg2 := Lib.hid hg2))
  all_goals
    have h1' : Mine w1 _ 23 .u32 (.slice A1 S.rs.length c1) ([] ++ S.rs) := (by simpa using hown1.out)
    have h2' : Mine w2 _ 23 .u32 (.slice A2 S.os.length c2) ([] ++ S.os) := (by simpa using hown2.out)
    first
    | (have hS := see1 (W := W) S.k S.a S.b S.o h1' hG1.out h2' hG2.out (by first | exact hg2.out | exact grown_trans (World.grownBy_alloc _ _ _) hg2.out)
       obtain ⟨Wf, hWf⟩ : ∃ Wf, w2.alloc (.cells #[.int .u32 0, .int .u8 S.k, .int .u32 S.a, .int .u32 S.b, .int .u32 0, .int .u32 S.o, .slice A1 S.rs.length c1, .slice A2 S.os.length c2, .int .i64 0, .slice none 0 0] 55) = Wf := ⟨_, rfl⟩
       rw [hWf] at hS ⊢
       generalize w2.heap.size = X at hS ⊢)
    | (have hS := see2 (W := W) S.k S.a S.b S.o h1' (Nat.le_refl _) hG1.out h2' (by simp) hG2.out (grown_trans (World.grownBy_alloc _ _ _) hg2.out) hX2.out hG1.out.size (.inl (Nat.le_refl _)) (by simp)
       obtain ⟨Wf, hWf⟩ : ∃ Wf, ((((((((((w2.setCell ⟨w1.heap.size, 0, none⟩ (.int .u32 0)).setCell ⟨w1.heap.size, 1, none⟩ (.int .u8 S.k)).setCell ⟨w1.heap.size, 2, none⟩ (.int .u32 S.a)).setCell ⟨w1.heap.size, 3, none⟩ (.int .u32 S.b)).setCell ⟨w1.heap.size, 4, none⟩ (.int .u32 0)).setCell ⟨w1.heap.size, 5, none⟩ (.int .u32 S.o)).setCell ⟨w1.heap.size, 6, none⟩ (.slice A1 S.rs.length c1)).setCell ⟨w1.heap.size, 7, none⟩ (.slice A2 S.os.length c2)).setCell ⟨w1.heap.size, 8, none⟩ (.int .i64 0)).setCell ⟨w1.heap.size, 9, none⟩ (.slice none 0 0)) = Wf := ⟨_, rfl⟩
       rw [hWf] at hS ⊢
       generalize w1.heap.size = X at hS ⊢)
    | (have hS := see2 (W := W) S.k S.a S.b S.o h1' (by simp) hG1.out h2' (Nat.le_refl _) hG2.out hg2.out hX2.out (Nat.le_refl _) (.inr (by simp)) hXl1
       obtain ⟨Wf, hWf⟩ : ∃ Wf, ((((((((((w2.setCell ⟨W.heap.size, 0, none⟩ (.int .u32 0)).setCell ⟨W.heap.size, 1, none⟩ (.int .u8 S.k)).setCell ⟨W.heap.size, 2, none⟩ (.int .u32 S.a)).setCell ⟨W.heap.size, 3, none⟩ (.int .u32 S.b)).setCell ⟨W.heap.size, 4, none⟩ (.int .u32 0)).setCell ⟨W.heap.size, 5, none⟩ (.int .u32 S.o)).setCell ⟨W.heap.size, 6, none⟩ (.slice A1 S.rs.length c1)).setCell ⟨W.heap.size, 7, none⟩ (.slice A2 S.os.length c2)).setCell ⟨W.heap.size, 8, none⟩ (.int .i64 0)).setCell ⟨W.heap.size, 9, none⟩ (.slice none 0 0)) = Wf := ⟨_, rfl⟩
       rw [hWf] at hS ⊢
       generalize hXe : W.heap.size = X at hS ⊢)
  all_goals
    have hYW : Y < W.heap.size := (Array.getElem?_eq_some_iff.1 hY.out).1
    have hXW := hS.lo
    have hYX : Y ≠ X := by omega
    have hS0 : Hid (SeeF W Wf X S.k S.a S.b ((PolN.cnt 0 S.os 0 : Nat) : Int) S.o (.slice A1 S.rs.length c1) (.slice A2 S.os.length c2) S.rs S.os) := hS
    have hcl := Lib.hid (PolN.cnt_le 0 S.os)
    have q0 := grown_cell hS.g r0
    have q6 := grown_cell hS.g r6
    clear r0 r1 r2 r4 r5 r6 hsA hsR hKeep hG1 hown1 hG2 hown2 hg2
    replace hS := Lib.hid hS
    replace hYX := Lib.hid hYX
    (try clear x0 x1 x2 x3 x4 x5 x6 x7 x8 x9 xz0 xz1 xz2 xz3 xz4 xz5 xz6 xz7 xz8 xz9)
    (try clear hX2)
    (try clear hX1)
    (try clear hXl1 hXl2)
    clear h1' h2' hS
    go_wp2_with fail
    go_loopw [4] (fun i wr => ∃ k : Nat, k ≤ n ∧ i = .int .i64 k ∧ Hid (SeeF W wr X S.k S.a S.b ((PolN.cnt 0 S.os k : Nat) : Int) S.o (.slice A1 S.rs.length c1) (.slice A2 S.os.length c2) S.rs S.os)) (fun i _ => n - (intOf i).toNat)
    case atStart => exact ⟨0, Nat.zero_le _, rfl, hS0⟩
    case round =>
      obtain ⟨k, hk, rfl, hS⟩ := hrel
      clear hS0 q0 q6
      have hRr := hR.out.keep hS.out.g
      have q6 := hRr.c6
      have hcq := hcl.out k
      by_cases hlt : k < n
      · obtain ⟨M, rfl, q, -⟩ := cellsO hRr hn.out k hlt
        have hkI : (k : Int) < (n : Int) := by omega
        have x4 := cell_of (i := 4) (v := .int .u32 ((PolN.cnt 0 S.os k : Nat) : Int)) hS.out.hx rfl
        have xz4 := frozen_of (i := 4) hS.out.hx
        replace hRr := Lib.hid hRr
        by_cases h0 : gd S.os k = 0
        · have hd2 := Lib.hid (PolN.cnt_succ_eq (by rw [hn.out]; exact hlt) h0)
          obtain ⟨d, hd⟩ : ∃ d, PolN.cnt 0 S.os k = d := ⟨_, rfl⟩
          rw [hd] at hcq x4
          have hS2 : Hid (SeeF W (wr.setCell ⟨X, 4, none⟩ (.int .u32 ((d : Int) + 1))) X S.k S.a S.b ((PolN.cnt 0 S.os (k + 1) : Nat) : Int) S.o (.slice A1 S.rs.length c1) (.slice A2 S.os.length c2) S.rs S.os) := by
            have := hS.out.set ((d : Int) + 1)
            rw [hd2.out, hd]
            exact this
          rw [h0] at q
          have hw : IntKind.u32.wrap ((d : Int) + 1) = d + 1 := by rw [IntKind.wrap_u32]; omega
          replace h0 := Lib.hid h0
          replace hd := Lib.hid hd
          clear hS
          go_wp2_with fail
          go_roundw
          case rel => exact ⟨k + 1, by omega, by go_num, hS2⟩
          case measure => exact meas n k hlt
        · have hd2 := Lib.hid (PolN.cnt_succ_ne (by rw [hn.out]; exact hlt) h0)
          have hS2 : Hid (SeeF W wr X S.k S.a S.b ((PolN.cnt 0 S.os (k + 1) : Nat) : Int) S.o (.slice A1 S.rs.length c1) (.slice A2 S.os.length c2) S.rs S.os) := by
            rw [hd2.out]; exact hS.out
          have y0 : (gd S.os k == 0) = false := by rw [beq_eq_false_iff_ne]; exact h0
          replace h0 := Lib.hid h0
          generalize gd S.os k = y at *
          clear hS
          go_wp2_with fail
          go_roundw
          case rel => exact ⟨k + 1, by omega, by go_num, hS2⟩
          case measure => exact meas n k hlt
      · obtain rfl : n = k := by omega
        have hca : PolN.cnt 0 S.os n = S.os.count 0 := by rw [← hn.out]; exact PolN.cnt_all 0 S.os
        rw [hca] at hS
        replace hca := Lib.hid hca
        have hYr := ((hS.out.g).block Y hYW (by simp)).trans hY.out
        have x0 := cell_of (i := 0) (v := .int .u32 0) hS.out.hx rfl
        have y0 := cell_of (i := 0) (v := .int .u32 0) hYr rfl
        have yz0 := frozen_of (i := 0) hYr
        have x1 := cell_of (i := 1) (v := .int .u8 S.k) hS.out.hx rfl
        have y1 := cell_of (i := 1) (v := .int .u8 0) hYr rfl
        have yz1 := frozen_of (i := 1) hYr
        have x2 := cell_of (i := 2) (v := .int .u32 S.a) hS.out.hx rfl
        have y2 := cell_of (i := 2) (v := .int .u32 0) hYr rfl
        have yz2 := frozen_of (i := 2) hYr
        have x3 := cell_of (i := 3) (v := .int .u32 S.b) hS.out.hx rfl
        have y3 := cell_of (i := 3) (v := .int .u32 0) hYr rfl
        have yz3 := frozen_of (i := 3) hYr
        have x4 := cell_of (i := 4) (v := .int .u32 ((S.os.count 0 : Nat) : Int)) hS.out.hx rfl
        have y4 := cell_of (i := 4) (v := .int .u32 0) hYr rfl
        have yz4 := frozen_of (i := 4) hYr
        have x5 := cell_of (i := 5) (v := .int .u32 S.o) hS.out.hx rfl
        have y5 := cell_of (i := 5) (v := .int .u32 0) hYr rfl
        have yz5 := frozen_of (i := 5) hYr
        have x6 := cell_of (i := 6) (v := .slice A1 S.rs.length c1) hS.out.hx rfl
        have y6 := cell_of (i := 6) (v := .slice none 0 0) hYr rfl
        have yz6 := frozen_of (i := 6) hYr
        have x7 := cell_of (i := 7) (v := .slice A2 S.os.length c2) hS.out.hx rfl
        have y7 := cell_of (i := 7) (v := .slice none 0 0) hYr rfl
        have yz7 := frozen_of (i := 7) hYr
        have x8 := cell_of (i := 8) (v := .int .i64 0) hS.out.hx rfl
        have y8 := cell_of (i := 8) (v := .int .i64 0) hYr rfl
        have yz8 := frozen_of (i := 8) hYr
        have x9 := cell_of (i := 9) (v := .slice none 0 0) hS.out.hx rfl
        have y9 := cell_of (i := 9) (v := .slice none 0 0) hYr rfl
        have yz9 := frozen_of (i := 9) hYr
        have hYl : Y < wr.heap.size := (Array.getElem?_eq_some_iff.1 hYr).1
        have hXl : X < wr.heap.size := (Array.getElem?_eq_some_iff.1 hS.out.hx).1
        have hXY := hYX.out
        have hXY2 : X ≠ Y := fun e => hXY e.symm
        replace hRr := Lib.hid hRr
        replace hYr := Lib.hid hYr
        clear hcq
        go_wp2_with fail
        have st : ∀ (Wx : World) (i : Nat) (v : Value), (Mine Wx W.heap.size 23 .u32 (.slice A1 S.rs.length c1) S.rs ∧ Mine Wx W.heap.size 23 .u32 (.slice A2 S.os.length c2) S.os ∧ w.grownBy Wx none) →
            (Mine (Wx.setCell ⟨Y, i, none⟩ v) W.heap.size 23 .u32 (.slice A1 S.rs.length c1) S.rs ∧ Mine (Wx.setCell ⟨Y, i, none⟩ v) W.heap.size 23 .u32 (.slice A2 S.os.length c2) S.os ∧ w.grownBy (Wx.setCell ⟨Y, i, none⟩ v) none) :=
          fun Wx i v ⟨h1, h2, h3⟩ => ⟨h1.keepB (grownBy_setCell _ _ _ _) hYW, h2.keepB (grownBy_setCell _ _ _ _) hYW, grown_step h3 (grownBy_setCell _ _ _ _) (by rw [hYe.out]; exact Nat.le_refl _)⟩
        have fin : ∀ Wx, (Mine Wx W.heap.size 23 .u32 (.slice A1 S.rs.length c1) S.rs ∧ Mine Wx W.heap.size 23 .u32 (.slice A2 S.os.length c2) S.os ∧ w.grownBy Wx none) →
            Mine Wx w.heap.size 23 .u32 (.slice A1 S.rs.length c1) S.rs ∧ Mine Wx w.heap.size 23 .u32 (.slice A2 S.os.length c2) S.os ∧ Apart (.slice A1 S.rs.length c1) (.slice A2 S.os.length c2) ∧ w.grownBy Wx none :=
          fun Wx ⟨h1, h2, h3⟩ => ⟨h1.low (by rw [hYe.out]; exact Nat.le_of_lt hYW), h2.low (by rw [hYe.out]; exact Nat.le_of_lt hYW), hS.out.ap, h3⟩
        (try simp only [Exit.inBlock, Exit.then])
        refine bodyPost_ret (v := thV S.k S.a S.b ((S.os.count 0 : Nat) : Int) S.o (.slice A1 S.rs.length c1) (.slice A2 S.os.length c2)) (by simp [results, Tryz.results13, go_sem, thV, World.cell?_setCell_other, y0, y1, y2, y3, y4, y5, y6, y7, y8, y9]) rfl ⟨_, _, rfl, fin _ ?_⟩
        repeat (refine st _ _ _ ?_)
        exact ⟨hS.out.m1, hS.out.m2, grown_trans hg0.out hS.out.g⟩
set_option maxRecDepth 100000 in
set_option maxHeartbeats 16000000 in
theorem rsee_n (h : RQ w R vr vo S) (hk : ((S.k : Int) == 1) = true ∨ ((S.k : Int) == 1) = false ∧ ((S.k : Int) == 4) = true) (h0 : S.os = []) : Calls Tryz.prog 13 #[.pointer (some ⟨R, 0, none⟩)] w fun e w' =>
    ∃ u1 u2, e = .returned (thV S.k S.a S.b S.n S.o u1 u2) ∧ Mine w' w.heap.size 23 .u32 u1 S.rs ∧ Mine w' w.heap.size 23 .u32 u2 S.os ∧ Apart u1 u2 ∧ w.grownBy w' none := by
  obtain ⟨i0, hi0, hz0, hz1, hz2⟩ := info_parts infoW
  obtain ⟨n, hn⟩ : ∃ n, S.os.length = n := ⟨_, rfl⟩
  obtain ⟨A, cc, rfl, hcc, hcm, hsA, -⟩ := h.openO hn
  have hn64 : n ≤ 64 := by have := h.l2; omega
  have hn0 : n = 0 := by rw [← hn, h0]; rfl
  subst hn0
  replace h0 := Lib.hid h0
  obtain ⟨nr, hnr⟩ : ∃ nr, S.rs.length = nr := ⟨_, rfl⟩
  obtain ⟨Ar, ccr, rfl, hccr, hcmr, hsR, -⟩ := h.openR hnr
  have hnr64 : nr ≤ 64 := by have := h.l1; omega
  have hRl : R < w.heap.size := h.lt R (.inl rfl)
  have hne : R ≠ w.heap.size := by omega
  have hg0 := Lib.hid (World.grownBy_alloc w (.cells #[.int .u32 0, .int .u8 0, .int .u32 0, .int .u32 0, .int .u32 0, .int .u32 0, .slice none 0 0, .slice none 0 0, .int .i64 0, .slice none 0 0] 55) none)
  have hY := World.alloc_heap_new w (.cells #[.int .u32 0, .int .u8 0, .int .u32 0, .int .u32 0, .int .u32 0, .int .u32 0, .slice none 0 0, .slice none 0 0, .int .i64 0, .slice none 0 0] 55)
  have hR := Lib.hid (h.keep hg0.out)
  have hsz : (w.alloc (.cells #[.int .u32 0, .int .u8 0, .int .u32 0, .int .u32 0, .int .u32 0, .int .u32 0, .slice none 0 0, .slice none 0 0, .int .i64 0, .slice none 0 0] 55)).heap.size = w.heap.size + 1 := World.size_alloc _ _
  clear h hcc hcm hsA hccr hcmr hsR
  go_enter Tryz.func13, Tryz.ntmps13
  go_wp2_with fail
  generalize w.alloc (.cells #[.int .u32 0, .int .u8 0, .int .u32 0, .int .u32 0, .int .u32 0, .int .u32 0, .slice none 0 0, .slice none 0 0, .int .i64 0, .slice none 0 0] 55) = W at *
  obtain ⟨Y, hYe⟩ : ∃ Y, w.heap.size = Y := ⟨_, rfl⟩
  rw [hYe] at hne hRl hY hsz ⊢
  have r0 := hR.out.c0
  have r1 := hR.out.c1
  have r2 := hR.out.c2
  have r3 := hR.out.c3
  have r4 := hR.out.c4
  have r5 := hR.out.c5
  have r6 := hR.out.c6
  have hsA : SlA W 0 W.heap.size .u32 A S.os := by
    obtain ⟨A', c', e, -, -, h9, -⟩ := hR.out.openO hn
    cases e; exact h9
  have hsR : SlA W 0 W.heap.size .u32 Ar S.rs := by
    obtain ⟨A', c', e, -, -, h9, -⟩ := hR.out.openR hnr
    cases e; exact h9
  replace hsA := Lib.hid hsA
  replace hsR := Lib.hid hsR
  replace hn := Lib.hid hn
  replace hnr := Lib.hid hnr
  replace hY := Lib.hid hY
  replace hYe := Lib.hid hYe
  replace hne := Lib.hid hne
  have hKeep : ∀ W', W.grownBy W' none → W'.cell? ⟨R, 0, none⟩ = some (.int .u8 S.k) ∧ W'.cell? ⟨R, 1, none⟩ = some (.int .u32 S.a) ∧ W'.cell? ⟨R, 2, none⟩ = some (.int .u32 S.b) ∧ W'.cell? ⟨R, 4, none⟩ = some (.int .u32 S.o) ∧ W'.cell? ⟨R, 5, none⟩ = some (.slice Ar nr ccr) ∧ W'.cell? ⟨R, 6, none⟩ = some (.slice A 0 cc) :=
    fun W' hg => ⟨grown_cell hg r0, grown_cell hg r1, grown_cell hg r2, grown_cell hg r4, grown_cell hg r5, grown_cell hg r6⟩
  replace hKeep := Lib.hid hKeep
  have hRW : R < W.heap.size := by omega
  replace hsz := Lib.hid hsz
  go_region_held3 (fun w' => w'.cell? ⟨R, 0, none⟩ = some (.int .u8 S.k) ∧ w'.cell? ⟨R, 1, none⟩ = some (.int .u32 S.a) ∧ w'.cell? ⟨R, 2, none⟩ = some (.int .u32 S.b) ∧ w'.cell? ⟨R, 4, none⟩ = some (.int .u32 S.o) ∧ w'.cell? ⟨R, 5, none⟩ = some (.slice Ar nr ccr) ∧ w'.cell? ⟨R, 6, none⟩ = some (.slice A 0 cc))
    (first | with_reducible exact hKeep.out _ hG2.out | with_reducible exact hKeep.out _ hG1.out | with_reducible exact hKeep.out _ (grown_drew W) | with_reducible exact hKeep.out _ (grown_alloc hG2.out _) | with_reducible exact hKeep.out _ (grown_alloc hG1.out _) | with_reducible exact hKeep.out _ (grown_alloc (grown_drew W) _) | with_reducible exact hKeep.out _ (grown_set10 hG2.out (Nat.le_refl _) _ _ _ _ _ _ _ _ _ _) | with_reducible exact hKeep.out _ (grown_set10 hG2.out hG1.out.size _ _ _ _ _ _ _ _ _ _) | exact hKeep.out _ (grown_drew W) | exact hKeep.out _ (grown_alloc (grown_drew W) _))
    (first
    | (refine step_join rfl _ _ 53 rfl W.heap.size 23 i0 Tryz.underlying53 hi0 hz0 hz1 hz2 (.slice none 0 0) [] (by go_simp) (Mine.nil _ _ _ _) Ar nr ccr 0 W.heap.size S.rs (by go_simp) (hsR.out) hnr.out (by omega) (by simp) (Nat.le_refl _) ?_; intro v1 w1 hown1 hg1; have hG1 : Hid (W.grownBy w1 none) := grown_undrew hg1; clear hg1; obtain ⟨A1, c1, e1, -⟩ := hown1.form; subst e1; replace hown1 := Lib.hid hown1)
    | (refine step_join rfl _ _ 53 rfl (W.drew.alloc (.cells #[.int .u32 0, .int .u8 0, .int .u32 0, .int .u32 0, .int .u32 0, .int .u32 0, .slice none 0 0, .slice none 0 0, .int .i64 0, .slice none 0 0] 55)).heap.size 23 i0 Tryz.underlying53 hi0 hz0 hz1 hz2 (.slice none 0 0) [] (by go_simp) (Mine.nil _ _ _ _) Ar nr ccr 0 W.heap.size S.rs (by go_simp) (SlA.alloc hsR.out _) hnr.out (by omega) (by simp) (Nat.le_refl _) ?_; intro v1 w1 hown1 hg1; have hG1 : Hid (W.grownBy w1 none) := grown_undrew (grown_trans (World.grownBy_alloc _ _ none) hg1); have hX1 := Lib.hid ((hg1.block W.heap.size (by simp) (by simp [Value.ownBlock])).trans (World.alloc_heap_new W.drew (.cells #[.int .u32 0, .int .u8 0, .int .u32 0, .int .u32 0, .int .u32 0, .int .u32 0, .slice none 0 0, .slice none 0 0, .int .i64 0, .slice none 0 0] 55))); have hXl1 : W.heap.size < w1.heap.size := (Array.getElem?_eq_some_iff.1 hX1.out).1; clear hg1; obtain ⟨A1, c1, e1, -⟩ := hown1.form; subst e1; replace hown1 := Lib.hid hown1)
    | (refine step_join rfl _ _ 53 rfl w1.heap.size 23 i0 Tryz.underlying53 hi0 hz0 hz1 hz2 (.slice none 0 0) [] (by go_simp) (Mine.nil _ _ _ _) A 0 cc 0 W.heap.size S.os (by go_simp) (hsA.out.kept hG1.out (by simp)) hn.out (by omega) (by simp) (Nat.le_refl _) ?_; intro v2 w2 hown2 hg2; have hG2 : Hid (W.grownBy w2 none) := grown_trans hG1.out hg2; have hX2 := (hg2.block W.heap.size hXl1 (by simp [Value.ownBlock])).trans hX1.out; have x0 := cell_of (i := 0) (v := .int .u32 0) hX2 rfl; have xz0 := frozen_of (i := 0) hX2; have x1 := cell_of (i := 1) (v := .int .u8 0) hX2 rfl; have xz1 := frozen_of (i := 1) hX2; have x2 := cell_of (i := 2) (v := .int .u32 0) hX2 rfl; have xz2 := frozen_of (i := 2) hX2; have x3 := cell_of (i := 3) (v := .int .u32 0) hX2 rfl; have xz3 := frozen_of (i := 3) hX2; have x4 := cell_of (i := 4) (v := .int .u32 0) hX2 rfl; have xz4 := frozen_of (i := 4) hX2; have x5 := cell_of (i := 5) (v := .int .u32 0) hX2 rfl; have xz5 := frozen_of (i := 5) hX2; have x6 := cell_of (i := 6) (v := .slice none 0 0) hX2 rfl; have xz6 := frozen_of (i := 6) hX2; have x7 := cell_of (i := 7) (v := .slice none 0 0) hX2 rfl; have xz7 := frozen_of (i := 7) hX2; have x8 := cell_of (i := 8) (v := .int .i64 0) hX2 rfl; have xz8 := frozen_of (i := 8) hX2; have x9 := cell_of (i := 9) (v := .slice none 0 0) hX2 rfl; have xz9 := frozen_of (i := 9) hX2; have hXl2 : W.heap.size < w2.heap.size := (Array.getElem?_eq_some_iff.1 hX2).1; replace hX2 := Lib.hid hX2; obtain ⟨A2, c2, e2, -⟩ := hown2.form; subst e2; replace hown2 := Lib.hid hown2; replace hg2 := Lib.hid hg2)
    | (refine step_join rfl _ _ 53 rfl w1.heap.size 23 i0 Tryz.underlying53 hi0 hz0 hz1 hz2 (.slice none 0 0) [] (by go_simp) (Mine.nil _ _ _ _) A 0 cc 0 W.heap.size S.os (by go_simp) (hsA.out.kept hG1.out (by simp)) hn.out (by omega) (by simp) (Nat.le_refl _) ?_; intro v2 w2 hown2 hg2; have hG2 : Hid (W.grownBy w2 none) := grown_trans hG1.out hg2; obtain ⟨A2, c2, e2, -⟩ := hown2.form; subst e2; replace hown2 := Lib.hid hown2; replace hg2 := Lib.hid hg2)
    | (refine step_join rfl _ _ 53 rfl (w1.alloc (.cells #[.int .u32 0, .int .u8 0, .int .u32 0, .int .u32 0, .int .u32 0, .int .u32 0, .slice none 0 0, .slice none 0 0, .int .i64 0, .slice none 0 0] 55)).heap.size 23 i0 Tryz.underlying53 hi0 hz0 hz1 hz2 (.slice none 0 0) [] (by go_simp) (Mine.nil _ _ _ _) A 0 cc 0 W.heap.size S.os (by go_simp) ((hsA.out.kept hG1.out (by simp)).alloc _) hn.out (by omega) (by simp) (Nat.le_refl _) ?_; intro v2 w2 hown2 hg2; have hG2 : Hid (W.grownBy w2 none) := grown_trans hG1.out (grown_trans (World.grownBy_alloc _ _ none) hg2); have hX2 := Lib.hid ((hg2.block w1.heap.size (by simp) (by simp [Value.ownBlock])).trans (World.alloc_heap_new w1 (.cells #[.int .u32 0, .int .u8 0, .int .u32 0, .int .u32 0, .int .u32 0, .int .u32 0, .slice none 0 0, .slice none 0 0, .int .i64 0, .slice none 0 0] 55))); have x0 := cell_of (i := 0) (v := .int .u32 0) hX2.out rfl; have xz0 := frozen_of (i := 0) hX2.out; have x1 := cell_of (i := 1) (v := .int .u8 0) hX2.out rfl; have xz1 := frozen_of (i := 1) hX2.out; have x2 := cell_of (i := 2) (v := .int .u32 0) hX2.out rfl; have xz2 := frozen_of (i := 2) hX2.out; have x3 := cell_of (i := 3) (v := .int .u32 0) hX2.out rfl; have xz3 := frozen_of (i := 3) hX2.out; have x4 := cell_of (i := 4) (v := .int .u32 0) hX2.out rfl; have xz4 := frozen_of (i := 4) hX2.out; have x5 := cell_of (i := 5) (v := .int .u32 0) hX2.out rfl; have xz5 := frozen_of (i := 5) hX2.out; have x6 := cell_of (i := 6) (v := .slice none 0 0) hX2.out rfl; have xz6 := frozen_of (i := 6) hX2.out; have x7 := cell_of (i := 7) (v := .slice none 0 0) hX2.out rfl; have xz7 := frozen_of (i := 7) hX2.out; have x8 := cell_of (i := 8) (v := .int .i64 0) hX2.out rfl; have xz8 := frozen_of (i := 8) hX2.out; have x9 := cell_of (i := 9) (v := .slice none 0 0) hX2.out rfl; have xz9 := frozen_of (i := 9) hX2.out; have hXl2 : w1.heap.size < w2.heap.size := (Array.getElem?_eq_some_iff.1 hX2.out).1; obtain ⟨A2, c2, e2, -⟩ := hown2.form; subst e2; replace hown2 := Lib.hid hown2; replace hg2 := Lib.hid hg2))
  all_goals
    have h1' : Mine w1 _ 23 .u32 (.slice A1 S.rs.length c1) ([] ++ S.rs) := (by simpa using hown1.out)
    have h2' : Mine w2 _ 23 .u32 (.slice A2 S.os.length c2) ([] ++ S.os) := (by simpa using hown2.out)
    first
    | (have hS := see1 (W := W) S.k S.a S.b S.o h1' hG1.out h2' hG2.out (by first | exact hg2.out | exact grown_trans (World.grownBy_alloc _ _ _) hg2.out)
       obtain ⟨Wf, hWf⟩ : ∃ Wf, w2.alloc (.cells #[.int .u32 0, .int .u8 S.k, .int .u32 S.a, .int .u32 S.b, .int .u32 0, .int .u32 S.o, .slice A1 S.rs.length c1, .slice A2 S.os.length c2, .int .i64 0, .slice none 0 0] 55) = Wf := ⟨_, rfl⟩
       rw [hWf] at hS ⊢
       generalize w2.heap.size = X at hS ⊢)
    | (have hS := see2 (W := W) S.k S.a S.b S.o h1' (Nat.le_refl _) hG1.out h2' (by simp) hG2.out (grown_trans (World.grownBy_alloc _ _ _) hg2.out) hX2.out hG1.out.size (.inl (Nat.le_refl _)) (by simp)
       obtain ⟨Wf, hWf⟩ : ∃ Wf, ((((((((((w2.setCell ⟨w1.heap.size, 0, none⟩ (.int .u32 0)).setCell ⟨w1.heap.size, 1, none⟩ (.int .u8 S.k)).setCell ⟨w1.heap.size, 2, none⟩ (.int .u32 S.a)).setCell ⟨w1.heap.size, 3, none⟩ (.int .u32 S.b)).setCell ⟨w1.heap.size, 4, none⟩ (.int .u32 0)).setCell ⟨w1.heap.size, 5, none⟩ (.int .u32 S.o)).setCell ⟨w1.heap.size, 6, none⟩ (.slice A1 S.rs.length c1)).setCell ⟨w1.heap.size, 7, none⟩ (.slice A2 S.os.length c2)).setCell ⟨w1.heap.size, 8, none⟩ (.int .i64 0)).setCell ⟨w1.heap.size, 9, none⟩ (.slice none 0 0)) = Wf := ⟨_, rfl⟩
       rw [hWf] at hS ⊢
       generalize w1.heap.size = X at hS ⊢)
    | (have hS := see2 (W := W) S.k S.a S.b S.o h1' (by simp) hG1.out h2' (Nat.le_refl _) hG2.out hg2.out hX2.out (Nat.le_refl _) (.inr (by simp)) hXl1
       obtain ⟨Wf, hWf⟩ : ∃ Wf, ((((((((((w2.setCell ⟨W.heap.size, 0, none⟩ (.int .u32 0)).setCell ⟨W.heap.size, 1, none⟩ (.int .u8 S.k)).setCell ⟨W.heap.size, 2, none⟩ (.int .u32 S.a)).setCell ⟨W.heap.size, 3, none⟩ (.int .u32 S.b)).setCell ⟨W.heap.size, 4, none⟩ (.int .u32 0)).setCell ⟨W.heap.size, 5, none⟩ (.int .u32 S.o)).setCell ⟨W.heap.size, 6, none⟩ (.slice A1 S.rs.length c1)).setCell ⟨W.heap.size, 7, none⟩ (.slice A2 S.os.length c2)).setCell ⟨W.heap.size, 8, none⟩ (.int .i64 0)).setCell ⟨W.heap.size, 9, none⟩ (.slice none 0 0)) = Wf := ⟨_, rfl⟩
       rw [hWf] at hS ⊢
       generalize hXe : W.heap.size = X at hS ⊢)
  all_goals
    have hYW : Y < W.heap.size := (Array.getElem?_eq_some_iff.1 hY.out).1
    have hXW := hS.lo
    have hYX : Y ≠ X := by omega
    have hS0 : Hid (SeeF W (Wf.setCell ⟨X, 4, none⟩ (.int .u32 S.n)) X S.k S.a S.b S.n S.o (.slice A1 S.rs.length c1) (.slice A2 S.os.length c2) S.rs S.os) := hS.set S.n
    have q3 := grown_cell hS.g r3
    have x4' := cell_of (i := 4) (v := .int .u32 0) hS.hx rfl
    have xz4' := frozen_of (i := 4) hS.hx
    have hRf := hR.out.keep hS.g
    have q6' := hRf.c6
    replace hRf := Lib.hid hRf
    have q0 := grown_cell hS.g r0
    have q6 := grown_cell hS.g r6
    clear r0 r1 r2 r3 r4 r5 r6 hsA hsR hKeep hG1 hown1 hG2 hown2 hg2
    replace hS := Lib.hid hS
    replace hYX := Lib.hid hYX
    (try clear x0 x1 x2 x3 x4 x5 x6 x7 x8 x9 xz0 xz1 xz2 xz3 xz4 xz5 xz6 xz7 xz8 xz9)
    (try clear hX2)
    (try clear hX1)
    (try clear hXl1 hXl2)
    clear h1' h2' hS
    rcases hk with k1 | ⟨k1, k4⟩
    all_goals
      go_wp2_with fail
      go_loopw [4] (fun i wr => i = .int .i64 0 ∧ Hid (SeeF W wr X S.k S.a S.b S.n S.o (.slice A1 S.rs.length c1) (.slice A2 S.os.length c2) S.rs S.os)) (fun i _ => 0)
      case atStart => exact ⟨rfl, hS0⟩
      case round =>
        obtain ⟨rfl, hS⟩ := hrel
        clear hS0 q0 q6 q3 x4' xz4' hRf q6'
        have hRr := hR.out.keep hS.out.g
        have q6 := hRr.c6
        all_goals
          have hYr := ((hS.out.g).block Y hYW (by simp)).trans hY.out
          have x0 := cell_of (i := 0) (v := .int .u32 0) hS.out.hx rfl
          have y0 := cell_of (i := 0) (v := .int .u32 0) hYr rfl
          have yz0 := frozen_of (i := 0) hYr
          have x1 := cell_of (i := 1) (v := .int .u8 S.k) hS.out.hx rfl
          have y1 := cell_of (i := 1) (v := .int .u8 0) hYr rfl
          have yz1 := frozen_of (i := 1) hYr
          have x2 := cell_of (i := 2) (v := .int .u32 S.a) hS.out.hx rfl
          have y2 := cell_of (i := 2) (v := .int .u32 0) hYr rfl
          have yz2 := frozen_of (i := 2) hYr
          have x3 := cell_of (i := 3) (v := .int .u32 S.b) hS.out.hx rfl
          have y3 := cell_of (i := 3) (v := .int .u32 0) hYr rfl
          have yz3 := frozen_of (i := 3) hYr
          have x4 := cell_of (i := 4) (v := .int .u32 S.n) hS.out.hx rfl
          have y4 := cell_of (i := 4) (v := .int .u32 0) hYr rfl
          have yz4 := frozen_of (i := 4) hYr
          have x5 := cell_of (i := 5) (v := .int .u32 S.o) hS.out.hx rfl
          have y5 := cell_of (i := 5) (v := .int .u32 0) hYr rfl
          have yz5 := frozen_of (i := 5) hYr
          have x6 := cell_of (i := 6) (v := .slice A1 S.rs.length c1) hS.out.hx rfl
          have y6 := cell_of (i := 6) (v := .slice none 0 0) hYr rfl
          have yz6 := frozen_of (i := 6) hYr
          have x7 := cell_of (i := 7) (v := .slice A2 S.os.length c2) hS.out.hx rfl
          have y7 := cell_of (i := 7) (v := .slice none 0 0) hYr rfl
          have yz7 := frozen_of (i := 7) hYr
          have x8 := cell_of (i := 8) (v := .int .i64 0) hS.out.hx rfl
          have y8 := cell_of (i := 8) (v := .int .i64 0) hYr rfl
          have yz8 := frozen_of (i := 8) hYr
          have x9 := cell_of (i := 9) (v := .slice none 0 0) hS.out.hx rfl
          have y9 := cell_of (i := 9) (v := .slice none 0 0) hYr rfl
          have yz9 := frozen_of (i := 9) hYr
          have hYl : Y < wr.heap.size := (Array.getElem?_eq_some_iff.1 hYr).1
          have hXl : X < wr.heap.size := (Array.getElem?_eq_some_iff.1 hS.out.hx).1
          have hXY := hYX.out
          have hXY2 : X ≠ Y := fun e => hXY e.symm
          replace hRr := Lib.hid hRr
          replace hYr := Lib.hid hYr
          go_wp2_with fail
          have st : ∀ (Wx : World) (i : Nat) (v : Value), (Mine Wx W.heap.size 23 .u32 (.slice A1 S.rs.length c1) S.rs ∧ Mine Wx W.heap.size 23 .u32 (.slice A2 S.os.length c2) S.os ∧ w.grownBy Wx none) →
              (Mine (Wx.setCell ⟨Y, i, none⟩ v) W.heap.size 23 .u32 (.slice A1 S.rs.length c1) S.rs ∧ Mine (Wx.setCell ⟨Y, i, none⟩ v) W.heap.size 23 .u32 (.slice A2 S.os.length c2) S.os ∧ w.grownBy (Wx.setCell ⟨Y, i, none⟩ v) none) :=
            fun Wx i v ⟨h1, h2, h3⟩ => ⟨h1.keepB (grownBy_setCell _ _ _ _) hYW, h2.keepB (grownBy_setCell _ _ _ _) hYW, grown_step h3 (grownBy_setCell _ _ _ _) (by rw [hYe.out]; exact Nat.le_refl _)⟩
          have fin : ∀ Wx, (Mine Wx W.heap.size 23 .u32 (.slice A1 S.rs.length c1) S.rs ∧ Mine Wx W.heap.size 23 .u32 (.slice A2 S.os.length c2) S.os ∧ w.grownBy Wx none) →
              Mine Wx w.heap.size 23 .u32 (.slice A1 S.rs.length c1) S.rs ∧ Mine Wx w.heap.size 23 .u32 (.slice A2 S.os.length c2) S.os ∧ Apart (.slice A1 S.rs.length c1) (.slice A2 S.os.length c2) ∧ w.grownBy Wx none :=
            fun Wx ⟨h1, h2, h3⟩ => ⟨h1.low (by rw [hYe.out]; exact Nat.le_of_lt hYW), h2.low (by rw [hYe.out]; exact Nat.le_of_lt hYW), hS.out.ap, h3⟩
          (try simp only [Exit.inBlock, Exit.then])
          refine bodyPost_ret (v := thV S.k S.a S.b S.n S.o (.slice A1 S.rs.length c1) (.slice A2 S.os.length c2)) (by simp [results, Tryz.results13, go_sem, thV, World.cell?_setCell_other, y0, y1, y2, y3, y4, y5, y6, y7, y8, y9]) rfl ⟨_, _, rfl, fin _ ?_⟩
          repeat (refine st _ _ _ ?_)
          exact ⟨hS.out.m1, hS.out.m2, grown_trans hg0.out hS.out.g⟩
end RefO
end Go.Proofs.YtneamjaglgnmkaaGreatDoor
