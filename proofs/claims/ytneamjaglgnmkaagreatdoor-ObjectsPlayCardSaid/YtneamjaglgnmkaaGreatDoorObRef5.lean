/- timekeeperref18: what is asked of flags, and of pools. -/
import Derived.Test.YtneamjaglgnmkaaGreatDoorObRef4
namespace Go.Proofs.YtneamjaglgnmkaaGreatDoor
open Go.RowKit Go.Shelf Tk Tk.Msk
set_option linter.unusedVariables false
set_option linter.unusedSimpArgs false
namespace RefO
variable {w W : World} {R : Nat} {vr vo : Value} {S : TR}
theorem finN (h : RQ W R vr vo S) (g : w.grownBy W none) (x : Int) : Post w R vr vo { S with n := x } (W.setCell ⟨R, 3, none⟩ (.int .u32 x)) ∧ (W.setCell ⟨R, 3, none⟩ (.int .u32 x)).cell? ⟨R, 3, none⟩ = some (.int .u32 x) :=
  ⟨h.postN g x, cell_of (heap_set 3 _ h.blk) rfl⟩
set_option maxRecDepth 100000 in
set_option maxHeartbeats 8000000 in
theorem more_raise (h : RQ w R vr vo S) (n : Nat) (hn : S.n = n) (hn2 : n < 4294967296) (v : Nat) (hv : v < 4294967296) (who hh x t : Int) : Calls Tryz.prog 22 #[.pointer (some ⟨R, 0, none⟩), .int .u32 who, askV 12 hh v x t] w fun e w' => e = .returned (.tuple #[.int .u32 (n ||| v : Nat), .int .i64 0]) ∧ Post w R vr vo { S with n := (n ||| v : Nat) } w' := by
  have hb := or_u32 hn2 hv
  generalize n ||| v = m at *
  clear hn2 hv
  have hg0 := Lib.hid (World.grownBy_alloc w (.cells #[.int .u8 12, .int .u32 hh, .int .u32 v, .int .u32 x, .int .i64 t] 39) none)
  have hB := World.alloc_heap_new w (.cells #[.int .u8 12, .int .u32 hh, .int .u32 v, .int .u32 x, .int .i64 t] 39)
  have hR := Lib.hid (h.keep hg0.out)
  have hne : R ≠ w.heap.size := by have := h.lt R (.inl rfl); omega
  have hRl : R < w.heap.size := h.lt R (.inl rfl)
  have c3 := hR.out.c3
  have b0 := cell_of (i := 0) (v := .int .u8 12) hB rfl
  have b2 := cell_of (i := 2) (v := .int .u32 v) hB rfl
  have b3 := cell_of (i := 3) (v := .int .u32 x) hB rfl
  unfold askV
  go_enter Tryz.func22, Tryz.ntmps22
  rw [hn] at c3
  clear h
  go_wp2_with fail
  generalize w.alloc (.cells #[.int .u8 12, .int .u32 hh, .int .u32 v, .int .u32 x, .int .i64 t] 39) = W0 at *
  generalize w.heap.size = Z at *
  replace hB := Lib.hid hB
  replace hne := Lib.hid hne
  go_still_tail 10, (by kernel_rfl)
  change wpList _ _ _ _ _ W0.drew
  have hR1 : RQ W0.drew R vr vo S := hR.out.keep (grown_drewN (grown_refl _ _) 1)
  have hG1 : w.grownBy W0.drew none := grown_drewN hg0.out 1
  generalize W0.drew = W at *
  clear c3 b0 b2 b3 hR hB
  have c3 := hR1.c3
  rw [hn] at c3
  have z3 := hR1.fz 3
  have hfin := Lib.hid (finN hR1 hG1 m)
  have c31 := hfin.out.2
  replace hR1 := Lib.hid hR1
  replace hn := Lib.hid hn
  go_wp2_with fail
  go_ret2
  exact ⟨rfl, hfin.out.1⟩
set_option maxRecDepth 100000 in
set_option maxHeartbeats 8000000 in
theorem more_lower (h : RQ w R vr vo S) (n : Nat) (hn : S.n = n) (hn2 : n < 4294967296) (v : Nat) (hv : v < 4294967296) (who hh x t : Int) : Calls Tryz.prog 22 #[.pointer (some ⟨R, 0, none⟩), .int .u32 who, askV 13 hh v x t] w fun e w' => e = .returned (.tuple #[.int .u32 (goneN n v : Nat), .int .i64 0]) ∧ Post w R vr vo { S with n := (goneN n v : Nat) } w' := by
  have hb := andNot_u32 hn2 hv
  have hgo : goneN n v = n &&& (4294967295 - v) := rfl
  rw [← hgo] at hb
  clear hgo
  generalize goneN n v = m at *
  clear hn2 hv
  have hg0 := Lib.hid (World.grownBy_alloc w (.cells #[.int .u8 13, .int .u32 hh, .int .u32 v, .int .u32 x, .int .i64 t] 39) none)
  have hB := World.alloc_heap_new w (.cells #[.int .u8 13, .int .u32 hh, .int .u32 v, .int .u32 x, .int .i64 t] 39)
  have hR := Lib.hid (h.keep hg0.out)
  have hne : R ≠ w.heap.size := by have := h.lt R (.inl rfl); omega
  have hRl : R < w.heap.size := h.lt R (.inl rfl)
  have c3 := hR.out.c3
  have b0 := cell_of (i := 0) (v := .int .u8 13) hB rfl
  have b2 := cell_of (i := 2) (v := .int .u32 v) hB rfl
  have b3 := cell_of (i := 3) (v := .int .u32 x) hB rfl
  unfold askV
  go_enter Tryz.func22, Tryz.ntmps22
  rw [hn] at c3
  clear h
  go_wp2_with fail
  generalize w.alloc (.cells #[.int .u8 13, .int .u32 hh, .int .u32 v, .int .u32 x, .int .i64 t] 39) = W0 at *
  generalize w.heap.size = Z at *
  replace hB := Lib.hid hB
  replace hne := Lib.hid hne
  go_still_tail 10, (by kernel_rfl)
  change wpList _ _ _ _ _ W0.drew
  have hR1 : RQ W0.drew R vr vo S := hR.out.keep (grown_drewN (grown_refl _ _) 1)
  have hG1 : w.grownBy W0.drew none := grown_drewN hg0.out 1
  generalize W0.drew = W at *
  clear c3 b0 b2 b3 hR hB
  have c3 := hR1.c3
  rw [hn] at c3
  have z3 := hR1.fz 3
  have hfin := Lib.hid (finN hR1 hG1 m)
  have c31 := hfin.out.2
  replace hR1 := Lib.hid hR1
  replace hn := Lib.hid hn
  go_wp2_with fail
  go_ret2
  exact ⟨rfl, hfin.out.1⟩
set_option maxRecDepth 100000 in
set_option maxHeartbeats 8000000 in
theorem more_await_no (h : RQ w R vr vo S) (n : Nat) (hn : S.n = n) (hn2 : n < 4294967296) (v : Nat) (hv : v < 4294967296) (x : Nat) (hx : x ≤ 3) (hno : holdsN n v (decide (x % 2 = 1)) = false) (who hh t : Int) : Calls Tryz.prog 22 #[.pointer (some ⟨R, 0, none⟩), .int .u32 who, askV 11 hh v x t] w fun e w' => e = .returned (.tuple #[.int .u32 0, .int .i64 7]) ∧ w.grownBy w' none := by
  have hal := Lib.hid (holds_ok n v (decide (x % 2 = 1)) hn2 hv)
  rw [hno] at hal
  have b4 : ((x : Int) % 2 == 1) = decide (x % 2 = 1) := by
    rcases (by omega : x = 0 ∨ x = 1 ∨ x = 2 ∨ x = 3) with rfl | rfl | rfl | rfl <;> rfl
  have b5 : decide ((2 : Int) ≤ (x : Int)) = decide (2 ≤ x) := by
    rcases (by omega : x = 0 ∨ x = 1 ∨ x = 2 ∨ x = 3) with rfl | rfl | rfl | rfl <;> rfl
  clear hn2 hv hx hno
  have hg0 := Lib.hid (World.grownBy_alloc w (.cells #[.int .u8 11, .int .u32 hh, .int .u32 v, .int .u32 x, .int .i64 t] 39) none)
  have hB := World.alloc_heap_new w (.cells #[.int .u8 11, .int .u32 hh, .int .u32 v, .int .u32 x, .int .i64 t] 39)
  have hR := Lib.hid (h.keep hg0.out)
  have hne : R ≠ w.heap.size := by have := h.lt R (.inl rfl); omega
  have hRl : R < w.heap.size := h.lt R (.inl rfl)
  have c3 := hR.out.c3
  have b0 := cell_of (i := 0) (v := .int .u8 11) hB rfl
  have b2 := cell_of (i := 2) (v := .int .u32 v) hB rfl
  have b3 := cell_of (i := 3) (v := .int .u32 x) hB rfl
  unfold askV
  go_enter Tryz.func22, Tryz.ntmps22
  rw [hn] at c3
  clear h
  go_wp2_with fail
  generalize w.alloc (.cells #[.int .u8 11, .int .u32 hh, .int .u32 v, .int .u32 x, .int .i64 t] 39) = W0 at *
  generalize w.heap.size = Z at *
  replace hB := Lib.hid hB
  replace hne := Lib.hid hne
  go_region_held3 (fun w' => w'.cell? ⟨R, 3, none⟩ = some (.int .u32 n) ∧ w'.cell? ⟨Z, 2, none⟩ = some (.int .u32 v)) (exact ⟨c3, b2⟩) (first
    | (go_at_call 54; refine (hal.out _).mono ?_; rintro e w8 ⟨rfl, rfl⟩))
  have hR1 : RQ W0.drew R vr vo S := hR.out.keep (grown_drewN (grown_refl _ _) 1)
  have hG1 : w.grownBy W0.drew none := grown_drewN hg0.out 1
  have hB1 : W0.drew.heap[Z]? = _ := hB.out
  generalize W0.drew = W at *
  clear c3 b0 b2 b3 hR hB hg0 hal
  have c3 := hR1.c3
  rw [hn] at c3
  have b2 := cell_of (i := 2) (v := .int .u32 v) hB1 rfl
  replace hR1 := Lib.hid hR1
  replace hG1 := Lib.hid hG1
  replace hB1 := Lib.hid hB1
  go_wp2_with fail
  go_ret2
  exact ⟨rfl, hG1.out⟩
set_option maxRecDepth 100000 in
set_option maxHeartbeats 8000000 in
theorem more_await (h : RQ w R vr vo S) (n : Nat) (hn : S.n = n) (hn2 : n < 4294967296) (v : Nat) (hv : v < 4294967296) (x : Nat) (hx : x ≤ 3) (hno : holdsN n v (decide (x % 2 = 1)) = true) (who hh t : Int) : Calls Tryz.prog 22 #[.pointer (some ⟨R, 0, none⟩), .int .u32 who, askV 11 hh v x t] w fun e w' => e = .returned (.tuple #[.int .u32 (metN n v), .int .i64 0]) ∧ Post w R vr vo { S with n := (afterN n v (decide (x % 2 = 1)) (decide (2 ≤ x)) : Nat) } w' := by
  have hal := Lib.hid (holds_ok n v (decide (x % 2 = 1)) hn2 hv)
  rw [hno] at hal
  have b4 : ((x : Int) % 2 == 1) = decide (x % 2 = 1) := by
    rcases (by omega : x = 0 ∨ x = 1 ∨ x = 2 ∨ x = 3) with rfl | rfl | rfl | rfl <;> rfl
  have b5 : decide ((2 : Int) ≤ (x : Int)) = decide (2 ≤ x) := by
    rcases (by omega : x = 0 ∨ x = 1 ∨ x = 2 ∨ x = 3) with rfl | rfl | rfl | rfl <;> rfl
  have haf := Lib.hid (after_ok n v (decide (x % 2 = 1)) (decide (2 ≤ x)) hn2 hv)
  have hme := Lib.hid (met_ok n v hn2 hv)
  generalize afterN n v (decide (x % 2 = 1)) (decide (2 ≤ x)) = M at *
  generalize metN n v = m at *
  clear hn2 hv hx hno
  have hg0 := Lib.hid (World.grownBy_alloc w (.cells #[.int .u8 11, .int .u32 hh, .int .u32 v, .int .u32 x, .int .i64 t] 39) none)
  have hB := World.alloc_heap_new w (.cells #[.int .u8 11, .int .u32 hh, .int .u32 v, .int .u32 x, .int .i64 t] 39)
  have hR := Lib.hid (h.keep hg0.out)
  have hne : R ≠ w.heap.size := by have := h.lt R (.inl rfl); omega
  have hRl : R < w.heap.size := h.lt R (.inl rfl)
  have c3 := hR.out.c3
  have b0 := cell_of (i := 0) (v := .int .u8 11) hB rfl
  have b2 := cell_of (i := 2) (v := .int .u32 v) hB rfl
  have b3 := cell_of (i := 3) (v := .int .u32 x) hB rfl
  unfold askV
  go_enter Tryz.func22, Tryz.ntmps22
  rw [hn] at c3
  clear h
  go_wp2_with fail
  generalize w.alloc (.cells #[.int .u8 11, .int .u32 hh, .int .u32 v, .int .u32 x, .int .i64 t] 39) = W0 at *
  generalize w.heap.size = Z at *
  replace hB := Lib.hid hB
  replace hne := Lib.hid hne
  go_region_held3 (fun w' => w'.cell? ⟨R, 3, none⟩ = some (.int .u32 n) ∧ w'.cell? ⟨Z, 2, none⟩ = some (.int .u32 v)) (exact ⟨c3, b2⟩) (first
    | (go_at_call 54; refine (hal.out _).mono ?_; rintro e w8 ⟨rfl, rfl⟩))
  have hR1 : RQ W0.drew R vr vo S := hR.out.keep (grown_drewN (grown_refl _ _) 1)
  have hG1 : w.grownBy W0.drew none := grown_drewN hg0.out 1
  have hB1 : W0.drew.heap[Z]? = _ := hB.out
  generalize W0.drew = W at *
  clear c3 b0 b2 b3 hR hB hg0 hal
  have c3 := hR1.c3
  rw [hn] at c3
  have b2 := cell_of (i := 2) (v := .int .u32 v) hB1 rfl
  replace hR1 := Lib.hid hR1
  replace hG1 := Lib.hid hG1
  replace hB1 := Lib.hid hB1
  go_wp2_with fail
  go_region_held3 (fun w' => w'.cell? ⟨R, 3, none⟩ = some (.int .u32 n) ∧ w'.cell? ⟨Z, 2, none⟩ = some (.int .u32 v)) (exact ⟨c3, b2⟩) (first
    | (go_at_call 55; refine (hme.out _).mono ?_; rintro e w8 ⟨rfl, rfl⟩))
  have hR2 : RQ W.drew R vr vo S := hR1.out.keep (grown_drewN (grown_refl _ _) 1)
  have hG2 : w.grownBy W.drew none := grown_drewN hG1.out 1
  have hB2 : W.drew.heap[Z]? = _ := hB1.out
  generalize W.drew = W2 at *
  clear c3 b2 hR1 hB1 hG1 hme
  have c3 := hR2.c3
  rw [hn] at c3
  have z3 := hR2.fz 3
  have b2 := cell_of (i := 2) (v := .int .u32 v) hB2 rfl
  have b3 := cell_of (i := 3) (v := .int .u32 x) hB2 rfl
  have hfin := Lib.hid (fun nq => finN (w := w) (W := W2.drewN nq) (hR2.keep (grown_drewN (grown_refl _ _) nq)) (grown_drewN hG2 nq) M)
  replace hR2 := Lib.hid hR2
  replace hG2 := Lib.hid hG2
  replace hB2 := Lib.hid hB2
  replace hn := Lib.hid hn
  go_wp2_with fail
  first | go_region_with (go_at_call 56; refine (haf.out _).mono ?_; rintro e wa ⟨rfl, rfl⟩) | fail
  all_goals go_wp2_with fail
  all_goals go_ret2
  all_goals exact ⟨rfl, (hfin.out 1).1⟩
end RefO
end Go.Proofs.YtneamjaglgnmkaaGreatDoor
