/- timekeeperref08: New. -/
import Derived.Test.YtabkkeeedlnmnaaDoorHanRef
namespace Go.Proofs.YtabkkeeedlnmnaaDoor
open Go.RowKit Go.Shelf Tk
set_option linter.unusedVariables false
set_option linter.unusedSimpArgs false
namespace RefH
variable {w w' : World} {R : Nat} {v : Nat × Nat} {t : Tab}
theorem meas (n k : Nat) (h : k < n) : n - (intOf (.int .i64 ((k : Int) + 1))).toNat < n - (intOf (.int .i64 (k : Int))).toNat := by simp [intOf]; omega
theorem infoBool : (Tryd.prog.info? 4).map (fun i => (i.zero, i.size, i.bytes)) = some (some (.bool false), 1, 1) := by kernel_rfl
/-- A table under way: k places are dropped. -/
structure RK (w : World) (R : Nat) (v : Nat × Nat) (n k : Nat) : Prop where
  hdr : Arr w R 2 (hv v.1 v.2 n)
  age : Arr w v.1 n (fun _ => .int .u32 0)
  drp : Arr w v.2 n (fun j => .bool (decide (j < k)))
  ne : v.1 ≠ R ∧ v.2 ≠ R ∧ v.1 ≠ v.2
theorem RK.set {n k : Nat} (h : RK w R v n k) (hk : k < n) : RK (w.setCell ⟨v.2, k, none⟩ (.bool true)) R v n (k + 1) := by
  obtain ⟨n1, n2, n3⟩ := h.ne
  refine ⟨h.hdr.kept (grownBy_setCell _ _ _ _) (by simpa using n2), h.age.kept (grownBy_setCell _ _ _ _) (by simpa using fun e => n3 e.symm), ?_, h.ne⟩
  refine (h.drp.set hk (.bool true)).congr fun i hi => ?_
  by_cases e : i = k
  · subst e; simp
  · rw [if_neg e]; congr 1; simp; omega
theorem RK.keep {n k : Nat} (h : RK w R v n k) (g : w.grownBy w' none) : RK w' R v n k := ⟨h.hdr.kept g (by simp), h.age.kept g (by simp), h.drp.kept g (by simp), h.ne⟩
theorem RK.all {n : Nat} (h : RK w R v n n) : RQ w R v (tab0 n) :=
  ⟨h.hdr, h.age.congr fun i hi => by simp [av, tab0], h.drp.congr fun i hi => by simp [dv, tab0, hi], h.ne⟩
theorem new_bad (x : Int) (h : x < 1 ∨ 256 < x) (w : World) :
    Calls Tryd.prog 16 #[.int .i64 x] w fun e w' => e = .returned (.tuple #[.pointer none, .int .i64 1]) ∧ w = w' := by
  have hcs : decide (x < 1) = true ∨ (decide (x < 1) = false ∧ decide (256 < x) = true) := by
    simp only [decide_eq_true_eq, decide_eq_false_iff_not]; omega
  clear h
  rcases hcs with p1 | ⟨p1, p2⟩
  all_goals
    go_enter Tryd.func16, Tryd.ntmps16
    go_wp2_with fail
    go_ret2
    exact ⟨rfl, rfl⟩
theorem rk_made (w : World) (n : Nat) (T1 T2 T3 : TypeId) :
    RK (((w.alloc (.cells (madeCells #[.int .u32 0] n) T1)).alloc (.cells (madeCells #[.bool false] n) T2)).alloc (.cells #[.slice (some ⟨w.heap.size, 0, none⟩) n n, .slice (some ⟨w.heap.size + 1, 0, none⟩) n n] T3)).drew (w.heap.size + 1 + 1) (w.heap.size, w.heap.size + 1) n 0 ∧
    RK (((w.alloc (.cells (madeCells #[.bool false] n) T2)).alloc (.cells (madeCells #[.int .u32 0] n) T1)).alloc (.cells #[.slice (some ⟨w.heap.size + 1, 0, none⟩) n n, .slice (some ⟨w.heap.size, 0, none⟩) n n] T3)).drew (w.heap.size + 1 + 1) (w.heap.size + 1, w.heap.size) n 0 := by
  have hA : ∀ (w : World) (v : Value) (T : TypeId), Arr (w.alloc (.cells (madeCells #[v] n) T)) w.heap.size n (fun _ => v) := fun w v T =>
    Arr.new w _ T n _ (by rw [size_madeCells]) fun i hi => by simp [madeCells, hi, Nat.mod_one]
  constructor
  · have h1 := hA w (.int .u32 0) T1
    have h2 := hA (w.alloc (.cells (madeCells #[.int .u32 0] n) T1)) (.bool false) T2
    rw [World.size_alloc] at h2
    refine ⟨?_, ((h1.alloc _).alloc _).drew, ((h2.alloc _).congr fun i hi => by simp).drew, by simp; omega⟩
    have h3 := Arr.new ((w.alloc (.cells (madeCells #[.int .u32 0] n) T1)).alloc (.cells (madeCells #[.bool false] n) T2)) #[.slice (some ⟨w.heap.size, 0, none⟩) n n, .slice (some ⟨w.heap.size + 1, 0, none⟩) n n] T3 2 (hv w.heap.size (w.heap.size + 1) n) rfl (fun i hi => by
      rcases (by omega : i = 0 ∨ i = 1) with rfl | rfl <;> rfl)
    rw [World.size_alloc, World.size_alloc] at h3
    exact h3.drew
  · have h1 := hA w (.bool false) T2
    have h2 := hA (w.alloc (.cells (madeCells #[.bool false] n) T2)) (.int .u32 0) T1
    rw [World.size_alloc] at h2
    refine ⟨?_, (h2.alloc _).drew, (((h1.alloc _).alloc _).congr fun i hi => by simp).drew, by simp; omega⟩
    have h3 := Arr.new ((w.alloc (.cells (madeCells #[.bool false] n) T2)).alloc (.cells (madeCells #[.int .u32 0] n) T1)) #[.slice (some ⟨w.heap.size + 1, 0, none⟩) n n, .slice (some ⟨w.heap.size, 0, none⟩) n n] T3 2 (hv (w.heap.size + 1) w.heap.size n) rfl (fun i hi => by
      rcases (by omega : i = 0 ∨ i = 1) with rfl | rfl <;> rfl)
    rw [World.size_alloc, World.size_alloc] at h3
    exact h3.drew
set_option maxRecDepth 100000 in
theorem new_ok (n : Nat) (h1 : 1 ≤ n) (h2 : n ≤ 256) (w : World) :
    Calls Tryd.prog 16 #[.int .i64 n] w fun e w' => ∃ R v, e = .returned (.tuple #[.pointer (some ⟨R, 0, none⟩), .int .i64 0]) ∧ RQ w' R v (tab0 n) ∧ w.grownBy w' none ∧ ∀ b, OwnQ R v b → w.heap.size ≤ b := by
  obtain ⟨i0, hi0, hz0, hz1, hz2⟩ := info_parts infoWord
  obtain ⟨i1, hi1, hy0, hy1, hy2⟩ := info_parts infoBool
  have p1 : decide ((n : Int) < 1) = false := decide_eq_false (by omega)
  have p2 : decide ((256 : Int) < (n : Int)) = false := decide_eq_false (by omega)
  have hmk1 : ∀ w, (Instr.makeSlice 56 (.int .i64 n) (.int .i64 n)).run Tryd.prog w = .ok (.slice (some ⟨w.heap.size, 0, none⟩) n n) (w.alloc (.cells (madeCells #[.int .u32 0] n) 22)) := fun w => by
    have := run_make (P := Tryd.prog) w 56 22 i0 (.int .u32 0) Tryd.underlying56 hi0 hz0 .i64 .i64 n n (by omega) (Int.le_refl _) (by rw [hz2]; omega) (by omega)
    rw [hz1] at this
    simpa [Value.cells] using this
  have hmk2 : ∀ w, (Instr.makeSlice 113 (.int .i64 n) (.int .i64 n)).run Tryd.prog w = .ok (.slice (some ⟨w.heap.size, 0, none⟩) n n) (w.alloc (.cells (madeCells #[.bool false] n) 4)) := fun w => by
    have := run_make (P := Tryd.prog) w 113 4 i1 (.bool false) Tryd.underlying113 hi1 hy0 .i64 .i64 n n (by omega) (Int.le_refl _) (by rw [hy2]; omega) (by omega)
    rw [hy1] at this
    simpa [Value.cells] using this
  have hbase := Lib.hid (rk_made w n 22 4 115)
  clear hi0 hz0 hz1 hz2 hi1 hy0 hy1 hy2
  go_enter Tryd.func16, Tryd.ntmps16
  go_wp2_with fail
  go_region
  · have hk0 := hbase.out.1
    have hg0 : w.grownBy (((w.alloc (.cells (madeCells #[.int .u32 0] n) 22)).alloc (.cells (madeCells #[.bool false] n) 4)).alloc (.cells #[.slice (some ⟨w.heap.size, 0, none⟩) n n, .slice (some ⟨w.heap.size + 1, 0, none⟩) n n] 115)).drew none := (grown_drewN (grown_alloc (grown_alloc (World.grownBy_alloc w _ none) _) _) 1)
    obtain ⟨W, hW⟩ : ∃ W, (((w.alloc (.cells (madeCells #[.int .u32 0] n) 22)).alloc (.cells (madeCells #[.bool false] n) 4)).alloc (.cells #[.slice (some ⟨w.heap.size, 0, none⟩) n n, .slice (some ⟨w.heap.size + 1, 0, none⟩) n n] 115)).drew = W := ⟨_, rfl⟩
    rw [hW] at hk0 hg0 ⊢
    replace hk0 := Lib.hid hk0
    clear hbase hmk1 hmk2 hW
    go_wp2_with fail
    go_loopw [5] (fun i wr => ∃ k : Nat, k ≤ n ∧ i = .int .i64 k ∧ RK wr (w.heap.size + 1 + 1) (w.heap.size, w.heap.size + 1) n k ∧ w.grownBy wr none) (fun i _ => n - (intOf i).toNat)
    case atStart => exact ⟨0, Nat.zero_le _, rfl, hk0.out, hg0⟩
    case round =>
      obtain ⟨k, hk, rfl, hR, hg⟩ := hrel
      clear hk0 hg0
      have c1 : wr.cell? ⟨w.heap.size + 1 + 1, 1, none⟩ = some (.slice (some ⟨(w.heap.size, w.heap.size + 1).2, 0, none⟩) n n) := hR.hdr.cell (i := 1) (by decide)
      by_cases hlt : k < n
      · have q := hR.drp.cell (i := k) hlt
        have qf := hR.drp.frozen k
        have hkI : (k : Int) < (n : Int) := by omega
        have hR2 := Lib.hid (hR.set hlt)
        have hg2 := Lib.hid (grown_step hg (grownBy_setCell wr (w.heap.size, w.heap.size + 1).2 k (.bool true)) (by simp))
        clear hR hg
        go_wp2_with fail
        go_roundw
        case rel => exact ⟨k + 1, by omega, by go_num, hR2.out, hg2.out⟩
        case measure => exact meas n k hlt
      · obtain rfl : n = k := by omega
        clear c1
        go_wp2_with fail
        go_ret2
        exact ⟨_, _, rfl, hR.all, hg, by rintro b (rfl | rfl | rfl) <;> (try simp only []) <;> omega⟩
  · have hk0 := hbase.out.2
    have hg0 : w.grownBy (((w.alloc (.cells (madeCells #[.bool false] n) 4)).alloc (.cells (madeCells #[.int .u32 0] n) 22)).alloc (.cells #[.slice (some ⟨w.heap.size + 1, 0, none⟩) n n, .slice (some ⟨w.heap.size, 0, none⟩) n n] 115)).drew none := (grown_drewN (grown_alloc (grown_alloc (World.grownBy_alloc w _ none) _) _) 1)
    obtain ⟨W, hW⟩ : ∃ W, (((w.alloc (.cells (madeCells #[.bool false] n) 4)).alloc (.cells (madeCells #[.int .u32 0] n) 22)).alloc (.cells #[.slice (some ⟨w.heap.size + 1, 0, none⟩) n n, .slice (some ⟨w.heap.size, 0, none⟩) n n] 115)).drew = W := ⟨_, rfl⟩
    rw [hW] at hk0 hg0 ⊢
    replace hk0 := Lib.hid hk0
    clear hbase hmk1 hmk2 hW
    go_wp2_with fail
    go_loopw [5] (fun i wr => ∃ k : Nat, k ≤ n ∧ i = .int .i64 k ∧ RK wr (w.heap.size + 1 + 1) (w.heap.size + 1, w.heap.size) n k ∧ w.grownBy wr none) (fun i _ => n - (intOf i).toNat)
    case atStart => exact ⟨0, Nat.zero_le _, rfl, hk0.out, hg0⟩
    case round =>
      obtain ⟨k, hk, rfl, hR, hg⟩ := hrel
      clear hk0 hg0
      have c1 : wr.cell? ⟨w.heap.size + 1 + 1, 1, none⟩ = some (.slice (some ⟨(w.heap.size + 1, w.heap.size).2, 0, none⟩) n n) := hR.hdr.cell (i := 1) (by decide)
      by_cases hlt : k < n
      · have q := hR.drp.cell (i := k) hlt
        have qf := hR.drp.frozen k
        have hkI : (k : Int) < (n : Int) := by omega
        have hR2 := Lib.hid (hR.set hlt)
        have hg2 := Lib.hid (grown_step hg (grownBy_setCell wr (w.heap.size + 1, w.heap.size).2 k (.bool true)) (by simp))
        clear hR hg
        go_wp2_with fail
        go_roundw
        case rel => exact ⟨k + 1, by omega, by go_num, hR2.out, hg2.out⟩
        case measure => exact meas n k hlt
      · obtain rfl : n = k := by omega
        clear c1
        go_wp2_with fail
        go_ret2
        exact ⟨_, _, rfl, hR.all, hg, by rintro b (rfl | rfl | rfl) <;> (try simp only []) <;> omega⟩
end RefH
end Go.Proofs.YtabkkeeedlnmnaaDoor
