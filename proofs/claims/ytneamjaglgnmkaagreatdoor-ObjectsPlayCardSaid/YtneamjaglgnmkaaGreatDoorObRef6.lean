/- timekeeperref18: what is asked of pools. -/
import Derived.Test.YtneamjaglgnmkaaGreatDoorObRef5
namespace Go.Proofs.YtneamjaglgnmkaaGreatDoor
open Go.RowKit Go.Shelf Tk Tk.Msk
set_option linter.unusedVariables false
set_option linter.unusedSimpArgs false
namespace RefO
variable {w W : World} {R : Nat} {vr vo : Value} {S : TR}
theorem meas (n k : Nat) (h : k < n) : n - (intOf (.int .i64 ((k : Int) + 1))).toNat < n - (intOf (.int .i64 (k : Int))).toNat := by simp [intOf]; omega
theorem cellsO {W : World} {A : Option Addr} {n c : Nat} (h : RQ W R vr (.slice A n c) S) (hn : S.os.length = n) : ∀ i, i < n → ∃ M, A = some ⟨M, 0, none⟩ ∧ W.cell? ⟨M, i, none⟩ = some (.int .u32 (gd S.os i)) ∧ W.frozen? ⟨M, i, none⟩ = false := by
  obtain ⟨A', c', e, -, -, -, h9⟩ := h.openO hn
  cases e
  intro i hi
  obtain ⟨M, rfl, h1, h2⟩ := h9.resolve_left (by omega)
  exact ⟨M, rfl, h1 i hi, h2 i⟩
set_option maxRecDepth 100000 in
set_option maxHeartbeats 8000000 in
theorem more_alloc_no (h : RQ w R vr vo S) (hno : ∀ i, i < S.os.length → gd S.os i ≠ 0) (who hh v x t : Int) : Calls Tryz.prog 22 #[.pointer (some ⟨R, 0, none⟩), .int .u32 who, askV 14 hh v x t] w fun e w' => e = .returned (.tuple #[.int .u32 0, .int .i64 7]) ∧ w.grownBy w' none := by
  obtain ⟨n, hn⟩ : ∃ n, S.os.length = n := ⟨_, rfl⟩
  obtain ⟨A, cc, rfl, hcc, hcm, -, -⟩ := h.openO hn
  have hn64 : n ≤ 64 := by have := h.l2; omega
  rw [hn] at hno
  replace hno := Lib.hid hno
  have hg0 := Lib.hid (World.grownBy_alloc w (.cells #[.int .u8 14, .int .u32 hh, .int .u32 v, .int .u32 x, .int .i64 t] 39) none)
  have hB := World.alloc_heap_new w (.cells #[.int .u8 14, .int .u32 hh, .int .u32 v, .int .u32 x, .int .i64 t] 39)
  have hR := Lib.hid (h.keep hg0.out)
  have hne : R ≠ w.heap.size := by have := h.lt R (.inl rfl); omega
  have hRl : R < w.heap.size := h.lt R (.inl rfl)
  have c6 := hR.out.c6
  have b0 := cell_of (i := 0) (v := .int .u8 14) hB rfl
  have b2 := cell_of (i := 2) (v := .int .u32 v) hB rfl
  have b3 := cell_of (i := 3) (v := .int .u32 x) hB rfl
  unfold askV
  go_enter Tryz.func22, Tryz.ntmps22
  have hc := Lib.hid (cellsO hR.out hn)
  clear h
  go_wp2_with fail
  generalize w.alloc (.cells #[.int .u8 14, .int .u32 hh, .int .u32 v, .int .u32 x, .int .i64 t] 39) = W0 at *
  generalize w.heap.size = Z at *
  replace hB := Lib.hid hB
  replace hne := Lib.hid hne
  go_loopw [11] (fun i wr => ∃ k : Nat, k ≤ n ∧ i = .int .i64 k ∧ wr = W0) (fun i _ => n - (intOf i).toNat)
  case atStart => exact ⟨0, Nat.zero_le _, rfl, rfl⟩
  case round =>
    obtain ⟨k, hk, rfl, hww⟩ := hrel
    obtain rfl : W0 = wr := hww.symm
    by_cases hlt : k < n
    · obtain ⟨M, rfl, q, -⟩ := hc.out k hlt
      have y0 : (gd S.os k == 0) = false := by rw [beq_eq_false_iff_ne]; exact hno.out k hlt
      generalize gd S.os k = y at *
      have hkI : (k : Int) < (n : Int) := by omega
      go_wp2_with fail
      go_roundw
      case rel => exact ⟨k + 1, by omega, by go_num, by first | rfl | trivial⟩
      case measure => exact meas n k hlt
    · obtain rfl : n = k := by omega
      go_wp2_with fail
      go_ret2
      exact ⟨rfl, hg0.out⟩
set_option maxRecDepth 100000 in
set_option maxHeartbeats 8000000 in
theorem more_alloc (h : RQ w R vr vo S) (j : Nat) (hj : j < S.os.length) (h0 : gd S.os j = 0) (hmin : ∀ i, i < j → gd S.os i ≠ 0) (who hh v x t : Int) : Calls Tryz.prog 22 #[.pointer (some ⟨R, 0, none⟩), .int .u32 who, askV 14 hh v x t] w fun e w' => e = .returned (.tuple #[.int .u32 j, .int .i64 0]) ∧ Post w R vr vo { S with os := S.os.set j who } w' := by
  obtain ⟨n, hn⟩ : ∃ n, S.os.length = n := ⟨_, rfl⟩
  obtain ⟨A, cc, rfl, hcc, hcm, -, -⟩ := h.openO hn
  have hn64 : n ≤ 64 := by have := h.l2; omega
  rw [hn] at hj
  replace hmin := Lib.hid hmin
  replace h0 := Lib.hid h0
  have hg0 := Lib.hid (World.grownBy_alloc w (.cells #[.int .u8 14, .int .u32 hh, .int .u32 v, .int .u32 x, .int .i64 t] 39) none)
  have hB := World.alloc_heap_new w (.cells #[.int .u8 14, .int .u32 hh, .int .u32 v, .int .u32 x, .int .i64 t] 39)
  have hR := Lib.hid (h.keep hg0.out)
  have hne : R ≠ w.heap.size := by have := h.lt R (.inl rfl); omega
  have hRl : R < w.heap.size := h.lt R (.inl rfl)
  have c6 := hR.out.c6
  have b0 := cell_of (i := 0) (v := .int .u8 14) hB rfl
  have b2 := cell_of (i := 2) (v := .int .u32 v) hB rfl
  have b3 := cell_of (i := 3) (v := .int .u32 x) hB rfl
  unfold askV
  go_enter Tryz.func22, Tryz.ntmps22
  have hc := Lib.hid (cellsO hR.out hn)
  have hwj : IntKind.u32.wrap (j : Int) = j := by rw [IntKind.wrap_u32]; omega
  clear h
  go_wp2_with fail
  generalize w.alloc (.cells #[.int .u8 14, .int .u32 hh, .int .u32 v, .int .u32 x, .int .i64 t] 39) = W0 at *
  generalize w.heap.size = Z at *
  replace hB := Lib.hid hB
  replace hne := Lib.hid hne
  go_loopw [11] (fun i wr => ∃ k : Nat, k ≤ j ∧ i = .int .i64 k ∧ wr = W0) (fun i _ => j - (intOf i).toNat)
  case atStart => exact ⟨0, Nat.zero_le _, rfl, rfl⟩
  case round =>
    obtain ⟨k, hk, rfl, hww⟩ := hrel
    obtain rfl : W0 = wr := hww.symm
    have hkI : (k : Int) < (n : Int) := by omega
    obtain ⟨M, rfl, q, qf⟩ := hc.out k (by omega)
    by_cases hlt : k < j
    · have y0 : (gd S.os k == 0) = false := by rw [beq_eq_false_iff_ne]; exact hmin.out k hlt
      generalize gd S.os k = y at *
      go_wp2_with fail
      go_roundw
      case rel => exact ⟨k + 1, by omega, by go_num, by first | rfl | trivial⟩
      case measure => exact meas j k hlt
    · obtain rfl : j = k := by omega
      rw [h0.out] at q
      have hP := Lib.hid (hR.out.postW hg0.out j who)
      go_wp2_with fail
      go_ret2
      exact ⟨rfl, hP.out⟩
set_option maxRecDepth 100000 in
set_option maxHeartbeats 8000000 in
theorem more_free_arg (h : RQ w R vr vo S) (v : Nat) (hv : S.os.length ≤ v) (who hh x t : Int) : Calls Tryz.prog 22 #[.pointer (some ⟨R, 0, none⟩), .int .u32 who, askV 15 hh v x t] w fun e w' => e = .returned (.tuple #[.int .u32 0, .int .i64 1]) ∧ w.grownBy w' none := by
  obtain ⟨n, hn⟩ : ∃ n, S.os.length = n := ⟨_, rfl⟩
  obtain ⟨A, cc, rfl, hcc, hcm, -, -⟩ := h.openO hn
  have hn64 : n ≤ 64 := by have := h.l2; omega
  rw [hn] at hv
  have hg0 := Lib.hid (World.grownBy_alloc w (.cells #[.int .u8 15, .int .u32 hh, .int .u32 v, .int .u32 x, .int .i64 t] 39) none)
  have hB := World.alloc_heap_new w (.cells #[.int .u8 15, .int .u32 hh, .int .u32 v, .int .u32 x, .int .i64 t] 39)
  have hR := Lib.hid (h.keep hg0.out)
  have hne : R ≠ w.heap.size := by have := h.lt R (.inl rfl); omega
  have hRl : R < w.heap.size := h.lt R (.inl rfl)
  have c6 := hR.out.c6
  have b0 := cell_of (i := 0) (v := .int .u8 15) hB rfl
  have b2 := cell_of (i := 2) (v := .int .u32 v) hB rfl
  have b3 := cell_of (i := 3) (v := .int .u32 x) hB rfl
  unfold askV
  go_enter Tryz.func22, Tryz.ntmps22
  have hw : IntKind.u32.wrap (n : Int) = n := by rw [IntKind.wrap_u32]; omega
  have ht : decide ((n : Int) ≤ (v : Int)) = true := decide_eq_true (by omega)
  have ht2 : (n : Int) ≤ (v : Int) := by omega
  clear h hcc hcm hn hv
  go_wp2_with fail
  generalize w.alloc (.cells #[.int .u8 15, .int .u32 hh, .int .u32 v, .int .u32 x, .int .i64 t] 39) = W0 at *
  generalize w.heap.size = Z at *
  replace hB := Lib.hid hB
  replace hne := Lib.hid hne
  go_quiet (fail)
  go_wp2_with fail
  go_ret2
  exact ⟨rfl, grown_drewN hg0.out nq⟩
set_option maxRecDepth 100000 in
set_option maxHeartbeats 8000000 in
theorem more_free_no (h : RQ w R vr vo S) (j : Nat) (hj : j < S.os.length) (who : Int) (ho : gd S.os j ≠ who) (hh x t : Int) : Calls Tryz.prog 22 #[.pointer (some ⟨R, 0, none⟩), .int .u32 who, askV 15 hh j x t] w fun e w' => e = .returned (.tuple #[.int .u32 0, .int .i64 13]) ∧ w.grownBy w' none := by
  obtain ⟨n, hn⟩ : ∃ n, S.os.length = n := ⟨_, rfl⟩
  obtain ⟨A, cc, rfl, hcc, hcm, -, -⟩ := h.openO hn
  have hn64 : n ≤ 64 := by have := h.l2; omega
  rw [hn] at hj
  have hg0 := Lib.hid (World.grownBy_alloc w (.cells #[.int .u8 15, .int .u32 hh, .int .u32 j, .int .u32 x, .int .i64 t] 39) none)
  have hB := World.alloc_heap_new w (.cells #[.int .u8 15, .int .u32 hh, .int .u32 j, .int .u32 x, .int .i64 t] 39)
  have hR := Lib.hid (h.keep hg0.out)
  have hne : R ≠ w.heap.size := by have := h.lt R (.inl rfl); omega
  have hRl : R < w.heap.size := h.lt R (.inl rfl)
  have c6 := hR.out.c6
  have b0 := cell_of (i := 0) (v := .int .u8 15) hB rfl
  have b2 := cell_of (i := 2) (v := .int .u32 j) hB rfl
  have b3 := cell_of (i := 3) (v := .int .u32 x) hB rfl
  unfold askV
  go_enter Tryz.func22, Tryz.ntmps22
  obtain ⟨M, rfl, q, qf⟩ := cellsO hR.out hn j hj
  have hw : IntKind.u32.wrap (n : Int) = n := by rw [IntKind.wrap_u32]; omega
  have ht : decide ((n : Int) ≤ (j : Int)) = false := decide_eq_false (by omega)
  have ht2 : ¬ (n : Int) ≤ (j : Int) := by omega
  have hjI : (j : Int) < (n : Int) := by omega
  have hbb : (gd S.os j != who) = true := by rw [bne_iff_ne]; exact ho
  generalize gd S.os j = y at *
  replace ho := Lib.hid ho
  clear h hcc hcm hj
  go_wp2_with fail
  generalize w.alloc (.cells #[.int .u8 15, .int .u32 hh, .int .u32 j, .int .u32 x, .int .i64 t] 39) = W0 at *
  generalize w.heap.size = Z at *
  replace hB := Lib.hid hB
  replace hne := Lib.hid hne
  go_quiet (fail)
  have hR1 : RQ (W0.drewN nq) R vr (.slice (some ⟨M, 0, none⟩) n cc) S := hR.out.keep (grown_drewN (grown_refl _ _) nq)
  have hG1 : w.grownBy (W0.drewN nq) none := grown_drewN hg0.out nq
  have hB1 : (W0.drewN nq).heap[Z]? = _ := hB.out
  have q1 := grown_cell (grown_drewN (grown_refl W0 none) nq) q
  have qf1 : (W0.drewN nq).frozen? ⟨M, j, none⟩ = false := qf
  generalize W0.drewN nq = W at *
  clear c6 b0 b2 b3 hR hg0 hB q qf
  have c6 := hR1.c6
  have b2 := cell_of (i := 2) (v := .int .u32 j) hB1 rfl
  replace hR1 := Lib.hid hR1
  replace hG1 := Lib.hid hG1
  replace hB1 := Lib.hid hB1
  replace hn := Lib.hid hn
  go_wp2_with fail
  go_quiet (fail)
  have hG2 := Lib.hid (fun nn => grown_drewN hG1.out nn)
  go_wp2_with fail
  go_ret2
  exact ⟨rfl, hG2.out _⟩
set_option maxRecDepth 100000 in
set_option maxHeartbeats 8000000 in
theorem more_free (h : RQ w R vr vo S) (j : Nat) (hj : j < S.os.length) (who : Int) (ho : gd S.os j = who) (hh x t : Int) : Calls Tryz.prog 22 #[.pointer (some ⟨R, 0, none⟩), .int .u32 who, askV 15 hh j x t] w fun e w' => e = .returned (.tuple #[.int .u32 0, .int .i64 0]) ∧ Post w R vr vo { S with os := S.os.set j 0 } w' := by
  obtain ⟨n, hn⟩ : ∃ n, S.os.length = n := ⟨_, rfl⟩
  obtain ⟨A, cc, rfl, hcc, hcm, -, -⟩ := h.openO hn
  have hn64 : n ≤ 64 := by have := h.l2; omega
  rw [hn] at hj
  have hg0 := Lib.hid (World.grownBy_alloc w (.cells #[.int .u8 15, .int .u32 hh, .int .u32 j, .int .u32 x, .int .i64 t] 39) none)
  have hB := World.alloc_heap_new w (.cells #[.int .u8 15, .int .u32 hh, .int .u32 j, .int .u32 x, .int .i64 t] 39)
  have hR := Lib.hid (h.keep hg0.out)
  have hne : R ≠ w.heap.size := by have := h.lt R (.inl rfl); omega
  have hRl : R < w.heap.size := h.lt R (.inl rfl)
  have c6 := hR.out.c6
  have b0 := cell_of (i := 0) (v := .int .u8 15) hB rfl
  have b2 := cell_of (i := 2) (v := .int .u32 j) hB rfl
  have b3 := cell_of (i := 3) (v := .int .u32 x) hB rfl
  unfold askV
  go_enter Tryz.func22, Tryz.ntmps22
  obtain ⟨M, rfl, q, qf⟩ := cellsO hR.out hn j hj
  have hw : IntKind.u32.wrap (n : Int) = n := by rw [IntKind.wrap_u32]; omega
  have ht : decide ((n : Int) ≤ (j : Int)) = false := decide_eq_false (by omega)
  have ht2 : ¬ (n : Int) ≤ (j : Int) := by omega
  have hjI : (j : Int) < (n : Int) := by omega
  rw [ho] at q
  have hbb : (who != who) = false := by simp
  replace ho := Lib.hid ho
  clear h hcc hcm hj
  go_wp2_with fail
  generalize w.alloc (.cells #[.int .u8 15, .int .u32 hh, .int .u32 j, .int .u32 x, .int .i64 t] 39) = W0 at *
  generalize w.heap.size = Z at *
  replace hB := Lib.hid hB
  replace hne := Lib.hid hne
  go_quiet (fail)
  have hR1 : RQ (W0.drewN nq) R vr (.slice (some ⟨M, 0, none⟩) n cc) S := hR.out.keep (grown_drewN (grown_refl _ _) nq)
  have hG1 : w.grownBy (W0.drewN nq) none := grown_drewN hg0.out nq
  have hB1 : (W0.drewN nq).heap[Z]? = _ := hB.out
  have q1 := grown_cell (grown_drewN (grown_refl W0 none) nq) q
  have qf1 : (W0.drewN nq).frozen? ⟨M, j, none⟩ = false := qf
  generalize W0.drewN nq = W at *
  clear c6 b0 b2 b3 hR hg0 hB q qf
  have c6 := hR1.c6
  have b2 := cell_of (i := 2) (v := .int .u32 j) hB1 rfl
  replace hR1 := Lib.hid hR1
  replace hG1 := Lib.hid hG1
  replace hB1 := Lib.hid hB1
  replace hn := Lib.hid hn
  go_wp2_with fail
  go_quiet (fail)
  have hR2 : RQ (W.drewN nq) R vr (.slice (some ⟨M, 0, none⟩) n cc) S := hR1.out.keep (grown_drewN (grown_refl _ _) _)
  have hG2 : w.grownBy (W.drewN nq) none := grown_drewN hG1.out _
  have hB2 : (W.drewN nq).heap[Z]? = _ := hB1.out
  have q2 := grown_cell (grown_drewN (grown_refl W none) nq) q1
  have qf2 : (W.drewN nq).frozen? ⟨M, j, none⟩ = false := qf1
  generalize W.drewN nq = W2 at *
  clear q1 qf1 c6 b2 hR1 hG1 hB1
  have c6 := hR2.c6
  have b2 := cell_of (i := 2) (v := .int .u32 j) hB2 rfl
  replace hR2 := Lib.hid hR2
  replace hG2 := Lib.hid hG2
  replace hB2 := Lib.hid hB2
  go_wp2_with fail
  go_still_tail 7, (by kernel_rfl)
  change wpList _ _ _ _ _ W2.drew
  have hP := Lib.hid (RQ.postW (W := W2.drew) (hR2.out.keep (grown_drewN (grown_refl _ _) 1)) (grown_drewN hG2.out 1) j 0)
  have q3 := grown_cell (grown_drewN (grown_refl W2 none) 1) q2
  have qf3 : W2.drew.frozen? ⟨M, j, none⟩ = false := qf2
  change W2.drew.cell? _ = _ at q3
  generalize W2.drew = W3 at *
  clear q2 qf2 c6 b2
  go_wp2_with fail
  go_ret2
  exact ⟨rfl, hP.out⟩
end RefO
end Go.Proofs.YtneamjaglgnmkaaGreatDoor
