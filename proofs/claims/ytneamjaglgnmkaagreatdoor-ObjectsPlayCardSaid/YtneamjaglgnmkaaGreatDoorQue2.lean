/- Package queues: Peek, Take, List. -/
import Derived.Test.YtneamjaglgnmkaaGreatDoorQue
namespace Go.Proofs.YtneamjaglgnmkaaGreatDoor
open Go.RowKit Go.Shelf Tk
set_option linter.unusedVariables false
set_option linter.unusedSimpArgs false

theorem peek_nil (w : World) : Calls Tryz.prog 125 #[.pointer none] w fun e w' => e = .returned (.tuple #[.int .u32 0, .int .i64 2]) ∧ w = w' := by
  go_enter Tryz.func125, Tryz.ntmps125
  go_wp2_with fail
  refine (there_nil _).mono ?_; rintro e w' ⟨rfl, rfl⟩
  go_wp2_with fail
  go_ret2
  exact ⟨rfl, rfl⟩
theorem peek_zero (B : Nat) (w : World) (hc : w.cell? ⟨B, 66, none⟩ = some (.int .i64 0)) : Calls Tryz.prog 125 #[.pointer (some ⟨B, 0, none⟩)] w fun e w' => e = .returned (.tuple #[.int .u32 0, .int .i64 2]) ∧ w = w' := by
  go_enter Tryz.func125, Tryz.ntmps125
  go_wp2_with fail
  refine (there_ok B 0 _ hc).mono ?_; rintro e w' ⟨rfl, rfl⟩
  go_wp2_with fail
  go_ret2
  exact ⟨rfl, rfl⟩
theorem peek_empty {B m : Nat} {f : Nat} {c : Nat → Int} (w : World) (h : Que w B m [] f c) : Calls Tryz.prog 125 #[.pointer (some ⟨B, 0, none⟩)] w fun e w' => e = .returned (.tuple #[.int .u32 0, .int .i64 11]) ∧ w = w' := by
  obtain ⟨c0, c1, c2⟩ := h.cells
  have hth := there_ok B m w c2
  rw [decide_eq_true (show 0 < m from h.m1)] at hth
  replace hth := Lib.hid hth
  go_enter Tryz.func125, Tryz.ntmps125
  go_wp2_with fail
  refine hth.out.mono ?_; rintro e w' ⟨rfl, rfl⟩
  go_wp2_with fail
  go_ret2
  exact ⟨rfl, rfl⟩
set_option maxHeartbeats 1000000 in
theorem peek_ok {B m : Nat} {v : Int} {ms : List Int} {f : Nat} {c : Nat → Int} (w : World) (h : Que w B m (v :: ms) f c) : Calls Tryz.prog 125 #[.pointer (some ⟨B, 0, none⟩)] w fun e w' => e = .returned (.tuple #[.int .u32 v, .int .i64 0]) ∧ ∃ n, w.drewN n = w' := by
  obtain ⟨c0, c1, c2⟩ := h.cells
  have hth := there_ok B m w c2
  rw [decide_eq_true (show 0 < m from h.m1)] at hth
  replace hth := Lib.hid hth
  have hfl := h.fl
  have hg := h.get 0 (by simp)
  have e0 : (f + 0) % 64 = f := by omega
  rw [e0] at hg
  have hci := h.arr.cell (i := f) (by omega)
  rw [qv_lo hfl, hg] at hci
  have hn : (((v :: ms).length : Int) == 0) = false := by rw [beq_eq_false_iff_ne]; simp; omega
  have hf0 : ((f : Int) + 0 + 64) % 64 = f := by omega
  replace hf0 := Lib.hid hf0
  generalize (v :: ms).length = n at *
  go_enter Tryz.func125, Tryz.ntmps125
  go_wp2_with fail
  refine hth.out.mono ?_; rintro e w' ⟨rfl, rfl⟩
  go_wp2_with fail
  refine (at_any B f f 0 (by decide) hfl hf0.out _ c0).mono ?_; rintro e w' ⟨rfl, nq, rfl⟩
  go_wp2_with fail
  go_ret2
  exact ⟨by simp [gd], _, rfl⟩
theorem Que.take {w : World} {B m : Nat} {v : Int} {ms : List Int} {f : Nat} {c : Nat → Int} (h : Que w B m (v :: ms) f c) {w' : World} (i : Nat) (hi : i = (f + 1) % 64)
    (hA : Arr w' B 67 (fun j => if j = 65 then .int .i64 ms.length else if j = 64 then .int .i64 i else qv c f (v :: ms).length m j)) : Que w' B m ms i c := by
  have hle := h.le
  simp only [List.length_cons] at hle
  refine ⟨hA.congr fun j hj => ?_, by rw [hi]; exact Nat.mod_lt _ (by decide), by omega, h.m64, h.m1, fun j hj => ?_⟩
  · by_cases e1 : j = 65
    · subst e1; rw [if_pos rfl, qv_65]
    · rw [if_neg e1]
      by_cases e3 : j = 64
      · subst e3; rw [if_pos rfl, qv_64]
      · rw [if_neg e3]
        unfold qv
        simp only [e1, e3, if_false]
  · have := h.get (j + 1) (by simp; omega)
    have e2 : (i + j) % 64 = (f + (j + 1)) % 64 := by omega
    rw [e2, this]; rfl
set_option maxHeartbeats 1000000 in
theorem take_ok {B m : Nat} {v : Int} {ms : List Int} {f : Nat} {c : Nat → Int} (w : World) (h : Que w B m (v :: ms) f c) : Calls Tryz.prog 124 #[.pointer (some ⟨B, 0, none⟩)] w fun e w' => e = .returned (.tuple #[.int .u32 v, .int .i64 0]) ∧ (∃ f', Que w' B m ms f' c) ∧ w.grownBy w' (some B) := by
  have hpk := Lib.hid (peek_ok w h)
  have hfl := h.fl
  obtain ⟨i, hi, hi2⟩ : ∃ i : Nat, ((f : Int) + 1) % 64 = i ∧ i = (f + 1) % 64 := ⟨(f + 1) % 64, by omega, rfl⟩
  replace hi2 := Lib.hid hi2
  obtain ⟨n, hn⟩ : ∃ n, (v :: ms).length = n := ⟨_, rfl⟩
  have hn1 : ((n : Int) - 1) = (ms.length : Int) := by rw [← hn]; simp
  have hn64 : n ≤ 64 := by have := h.le; have := h.m64; omega
  have hml : ms.length ≤ 64 := by omega
  have hA := h.arr
  rw [hn] at hA
  replace hn := Lib.hid hn
  go_enter Tryz.func124, Tryz.ntmps124
  go_wp2_with fail
  refine hpk.out.mono ?_; rintro e w' ⟨rfl, nq, rfl⟩
  have h2 : Arr (w.drewN nq) B 67 (qv c f n m) := Drawn.arr ⟨nq, rfl⟩ hA
  have hg2 : w.grownBy (w.drewN nq) none := grown_drewN (grown_refl _ _) _
  generalize w.drewN nq = W2 at *
  clear hA
  have c0 := h2.cell (i := 64) (by decide)
  have c1 := h2.cell (i := 65) (by decide)
  rw [qv_64] at c0
  rw [qv_65] at c1
  have f0 := h2.frozen 64
  have f1 := h2.frozen 65
  go_wp2_with fail
  go_ret2
  have hA3 := (h2.set (k := 64) (by decide) (.int .i64 i)).set (k := 65) (by decide) (.int .i64 ms.length)
  rw [← hn.out] at hA3
  exact ⟨rfl, ⟨_, h.take i hi2.out hA3⟩, grown_trans (grown_trans (grown_weaken _ hg2) (grownBy_setCell _ _ _ _)) (grownBy_setCell _ _ _ _)⟩
/-- Nothing is there to be taken. -/
theorem take_no (p : Value) (e : Nat) (he : e ≠ 0) (w : World) (hp : Calls Tryz.prog 125 #[p] w fun x w' => x = .returned (.tuple #[.int .u32 0, .int .i64 e]) ∧ w = w') :
    Calls Tryz.prog 124 #[p] w fun x w' => x = .returned (.tuple #[.int .u32 0, .int .i64 e]) ∧ w = w' := by
  have he' : ((e : Int) == 0) = false := by rw [beq_eq_false_iff_ne]; omega
  go_enter Tryz.func124, Tryz.ntmps124
  go_wp2_with fail
  refine hp.mono ?_; rintro x w' ⟨rfl, rfl⟩
  clear hp
  go_wp2_with fail
  go_ret2
  exact ⟨rfl, rfl⟩
theorem take_snoc {xs : List Int} {k : Nat} (h : k < xs.length) : xs.take k ++ [gd xs k] = xs.take (k + 1) := by
  rw [gd_lt h, List.take_append_getElem h]
set_option maxRecDepth 100000 in
set_option maxHeartbeats 2000000 in
theorem list_ok {B m : Nat} {ms : List Int} {f : Nat} {c : Nat → Int} (w : World) (h : Que w B m ms f c) : Calls Tryz.prog 23 #[.pointer (some ⟨B, 0, none⟩)] w fun e w' => ∃ A k, e = .returned (.slice A ms.length k) ∧ ms.length ≤ k ∧ Mine w' w.heap.size 23 .u32 (.slice A ms.length k) ms ∧ w.grownBy w' none := by
  obtain ⟨i0, hi, hz0, hz1, hz2⟩ := info_parts infoWord
  obtain ⟨c0, c1, c2⟩ := h.cells
  have hfl := h.fl
  have hml : ms.length ≤ 64 := by have := h.le; have := h.m64; omega
  have hK := Lib.hid (fun wr (hg : w.grownBy wr none) => h.keep hg)
  go_enter Tryz.func23, Tryz.ntmps23
  go_wp2_with fail
  go_loopw [2, 11] (fun v i wr => ∃ k : Nat, k ≤ ms.length ∧ i = .int .i64 k ∧ Mine wr w.heap.size 23 .u32 v (ms.take k) ∧ w.grownBy wr none) (fun _ i _ => ms.length - (intOf i).toNat)
  case atStart => exact ⟨0, Nat.zero_le _, rfl, Mine.nil _ _ _ _, grown_refl _ _⟩
  case round =>
    obtain ⟨k, hk, rfl, hM, hg⟩ := hrel
    clear c0 c1 c2
    have htl : (ms.take k).length = k := by simp; omega
    have hws := hg.size
    obtain ⟨A1, k1, rfl, hc1, hc2, -⟩ := hM.form
    rw [htl] at hM hc1 ⊢
    by_cases hlt : k < ms.length
    · have hQ := hK.out _ hg
      obtain ⟨c0, c1, c2⟩ := hQ.cells
      obtain ⟨i, hi', hi2⟩ : ∃ i : Nat, ((f : Int) + (k : Int) + 64) % 64 = i ∧ i = (f + k) % 64 := ⟨(f + k) % 64, by omega, rfl⟩
      have hi3 : i < 64 := by omega
      have hci := hQ.arr.cell (i := i) (by omega)
      rw [qv_lo hi3, hi2, hQ.get k hlt, ← hi2] at hci
      have hts := Lib.hid (take_snoc hlt)
      have hrow : wr.ownsRow w.heap.size 23 1 (.slice A1 k k1) k ((ms.take k).map (Value.int .u32)) := by
        have := hM; unfold Mine at this; rwa [htl] at this
      replace hrow := Lib.hid hrow
      replace hi' := Lib.hid hi'
      clear hi2 hQ
      generalize gd ms k = x at *
      go_wp2_with fail
      refine (at_any B f i _ (by omega) hfl hi'.out _ c0).mono ?_; rintro e w' ⟨rfl, nq, rfl⟩
      have hrow2 : (wr.drewN nq).ownsRow w.heap.size 23 1 (.slice A1 k k1) k ((ms.take k).map (Value.int .u32)) := by
        have := hM.drewN nq; unfold Mine at this; rwa [htl] at this
      replace hrow2 := Lib.hid hrow2
      have hM2 := hM.drewN nq
      have hg2 := grown_drewN hg nq
      have hci2 : (wr.drewN nq).cell? ⟨B, i, none⟩ = some (.int .u32 x) := hci
      have hws2 : w.heap.size ≤ (wr.drewN nq).heap.size := hws
      generalize wr.drewN nq = W at *
      clear hci
      have hgA := World.grownBy_alloc W (.cells #[.int .u32 x] 23) none
      go_wp2_with (at_builtin; refine wpList_append_own _ rfl _ _ 53 rfl w.heap.size 23 i0 (.int .u32 0) 1 4 Tryz.underlying53 hi hz0 hz1 hz2 rfl (by decide) (.slice A1 k k1) k ((ms.take k).map (Value.int .u32)) rfl (World.ownsRow.alloc hrow2.out _) ⟨W.heap.size, 0, none⟩ 1 1 [.int .u32 x] rfl rfl (cell_one_new _ _ _) (by simp [Value.oneCell']) (by unfold maxLen; omega) (by omega) (by simp; omega) ?_; intro v' w5 hown hgrow _)
      go_roundw
      case rel =>
        refine ⟨k + 1, by omega, by go_num, ?_, (hM2.keep hgA).far (grown_alloc hg2 _) (Nat.le_refl _) hgrow⟩
        rw [← hts.out]
        have hown' : w5.ownsRow w.heap.size 23 1 v' ((ms.take k).length + 1) ((ms.take k).map (Value.int .u32) ++ [.int .u32 x]) := by rw [htl]; exact hown
        exact Mine.add hown'
      case measure => simp [intOf]; omega
    · obtain rfl : k = ms.length := by omega
      rw [List.take_length] at hM
      go_wp2_with fail
      go_ret
      exact ⟨A1, k1, rfl, hc1, hM, hg⟩
theorem list_nil (w : World) : Calls Tryz.prog 23 #[.pointer none] w fun e w' => e = .returned (.slice none 0 0) ∧ w = w' := by
  go_enter Tryz.func23, Tryz.ntmps23
  go_wp2_with fail
  go_ret
  exact ⟨rfl, rfl⟩
theorem list_zero (B : Nat) (w : World) (hc : w.cell? ⟨B, 65, none⟩ = some (.int .i64 0)) : Calls Tryz.prog 23 #[.pointer (some ⟨B, 0, none⟩)] w fun e w' => e = .returned (.slice none 0 0) ∧ w = w' := by
  go_enter Tryz.func23, Tryz.ntmps23
  go_wp2_with fail
  go_loop [2, 11] (fun v i => v = .slice none 0 0 ∧ i = .int .i64 0) (fun _ _ => 0)
  case atStart => exact ⟨rfl, rfl⟩
  case round =>
    obtain ⟨rfl, rfl⟩ := hrel
    go_wp2_with fail
    go_ret
    exact ⟨rfl, rfl⟩
end Go.Proofs.YtneamjaglgnmkaaGreatDoor
