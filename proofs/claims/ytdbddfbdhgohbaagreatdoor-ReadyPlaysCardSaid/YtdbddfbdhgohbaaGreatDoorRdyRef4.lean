/- timekeeperref15: Turn, Remove. -/
import Derived.Test.YtdbddfbdhgohbaaGreatDoorRdyRef3
namespace Go.Proofs.YtdbddfbdhgohbaaGreatDoor
open Go.RowKit Go.Shelf Tk Tk.Rdy
set_option linter.unusedVariables false
set_option linter.unusedSimpArgs false
namespace RefD
variable {w w' : World} {R : Nat} {v : Nat → Value} {ls : Nat → List Int} {rk : Nat → Nat} {has : Nat}
theorem turn_bad (r : Int) (hb : r < 0 ∨ 31 < r) (w : World) :
    Calls Tryz.prog 25 #[.pointer (some ⟨R, 0, none⟩), .int .i64 r] w fun e w' => e = .returned (.int .i64 1) ∧ w = w' := by
  have hcs : decide (r < 0) = true ∨ (decide (r < 0) = false ∧ decide (31 < r) = true) := by
    simp only [decide_eq_true_eq, decide_eq_false_iff_not]; omega
  clear hb
  rcases hcs with p1 | ⟨p1, p2⟩
  all_goals
    go_enter Tryz.func25, Tryz.ntmps25
    go_wp2_with fail
    go_ret
    exact ⟨rfl, rfl⟩
theorem turn_empty (h : RQ w R v ls) {r : Nat} (hr : r < 32) (hl : ls r = []) :
    Calls Tryz.prog 25 #[.pointer (some ⟨R, 0, none⟩), .int .i64 r] w fun e w' => e = .returned (.int .i64 11) ∧ w = w' := by
  obtain ⟨A, c, hv, hc, hcm, hsl, q⟩ := h.row hr (n := 0) (by rw [hl]; rfl)
  have p1 : decide ((r : Int) < 0) = false := decide_eq_false (by omega)
  have p2 : decide ((31 : Int) < (r : Int)) = false := decide_eq_false (by omega)
  have r0 : (0 : Int) ≤ (r : Int) := Int.natCast_nonneg _
  have r32 : (r : Int) < 32 := by omega
  clear h hsl hv hl
  go_enter Tryz.func25, Tryz.ntmps25
  go_wp2_with fail
  go_ret
  exact ⟨rfl, rfl⟩
theorem sl_tail {w : World} {lo hi : Nat} {k : IntKind} {b o : Nat} {x : Int} {xs : List Int} (h : SlA w lo hi k (some ⟨b, o, none⟩) (x :: xs)) : SlA w lo hi k (some ⟨b, o + 1, none⟩) xs := by
  refine ⟨h.1, ?_⟩
  rcases h.2 with h' | ⟨b', o', hA, h1, h2, hc⟩
  · cases h'
  · cases hA
    right; exact ⟨b, o + 1, rfl, h1, h2, fun i hi => by
      have := hc (i + 1) (by simp; omega)
      rw [show o + 1 + i = o + (i + 1) by omega, this]; simp⟩
set_option maxRecDepth 100000 in
set_option maxHeartbeats 4000000 in
theorem turn_ok {x : Int} {ms : List Int} (h : RQ w R v ls) {r : Nat} (hr : r < 32) (hlr : ls r = x :: ms) (hl : ms.length ≤ 256) :
    Calls Tryz.prog 25 #[.pointer (some ⟨R, 0, none⟩), .int .i64 r] w fun e w' => e = .returned (.int .i64 0) ∧ Post w R v (upd ls r (ms ++ [x])) w' := by
  obtain ⟨i0, hi0, hz0, hz1, hz2⟩ := info_parts infoI
  obtain ⟨n, hn⟩ : ∃ n, ms.length = n := ⟨_, rfl⟩
  obtain ⟨A, c, hv, hc, hcm, hsl, q⟩ := h.row hr (n := n + 1) (by rw [hlr, List.length_cons, hn])
  rw [hlr] at hsl
  obtain ⟨b, o, hA, qc⟩ := hsl.at (i := 0) (by simp)
  subst hA
  have e0 : gd (x :: ms) 0 = x := rfl
  rw [e0] at qc
  simp only [Nat.add_zero] at qc
  have p1 : decide ((r : Int) < 0) = false := decide_eq_false (by omega)
  have p2 : decide ((31 : Int) < (r : Int)) = false := decide_eq_false (by omega)
  have r0 : (0 : Int) ≤ (r : Int) := Int.natCast_nonneg _
  have r32 : (r : Int) < 32 := by omega
  have h1 : ((n + 1 : Nat) : Int) = (n : Int) + 1 := by push_cast; rfl
  have h2 : (0 : Int) ≤ (n : Int) := Int.natCast_nonneg _
  have h3 : (((n + 1 : Nat) : Int) == 0) = false := by rw [beq_eq_false_iff_ne]; omega
  have h4 : (1 : Int) ≤ (n : Int) + 1 := by omega
  rw [hn] at hl
  have hR := Lib.hid h
  have hqc : Hid (∀ W, w.grownBy W none → W.cell? ⟨b, o, none⟩ = some (.int .i64 x)) := fun W hg => by
    have := (hsl.kept hg (by simp)).cell (i := 0) (by simp)
    rw [e0] at this; simpa using this
  obtain ⟨A', hA'⟩ : ∃ A', (if c = 1 then some (⟨b, o, none⟩ : Addr) else some ⟨b, o + 1, none⟩) = A' := ⟨_, rfl⟩
  have hsA : Hid (∀ W, w.grownBy W none → SlA W 0 w.heap.size .i64 A' ms) := fun W hg => by
    rw [← hA']
    by_cases e : c = 1
    · have : ms = [] := List.length_eq_zero_iff.1 (by omega)
      rw [this]
      exact ⟨hg.size, .inl rfl⟩
    · rw [if_neg e]; exact sl_tail (hsl.kept hg (by simp))
  replace hv := Lib.hid hv
  replace hn := Lib.hid hn
  clear hsl h hlr e0
  go_enter Tryz.func25, Tryz.ntmps25
  go_wp2_with fail
  have hG0 : Hid (w.grownBy w.drew none) := grown_drewN (grown_refl _ _) 1
  have hGb : Hid (w.grownBy (w.alloc (.cells #[.int .i64 x] 3)).drew none) := grown_drewN (World.grownBy_alloc w _ none) 1
  have qd : w.drew.cell? ⟨b, o, none⟩ = some (.int .i64 x) := qc
  have hob : Hid (SlA (w.alloc (.cells #[.int .i64 x] 3)).drew w.heap.size (w.heap.size + 1) .i64 (some ⟨w.heap.size, 0, none⟩) [x]) := one_sl w x _
  go_region_law (first
    | (refine step_join rfl _ _ 45 rfl w.heap.size 3 i0 Tryz.underlying45 hi0 hz0 hz1 hz2 (.slice none 0 0) [] rfl (Mine.nil _ _ _ _) A' n (c - 1) 0 w.heap.size ms (by go_simp) (hsA.out (w.alloc (.cells #[.int .i64 x] 3)).drew hGb.out) hn.out (by omega) (by simp) hGb.out.size ?_; intro v1 w1 hM1 hg1; have hG1 := Lib.hid (grown_trans hGb.out hg1); have q1 := hqc.out w1 hG1.out; have hone := Lib.hid (hob.out.kept hg1 (by intro b hb; cases hb)); clear hg1)
    | (refine step_join rfl _ _ 45 rfl w.heap.size 3 i0 Tryz.underlying45 hi0 hz0 hz1 hz2 (.slice none 0 0) [] rfl (Mine.nil _ _ _ _) A' n (c - 1) 0 w.heap.size ms (by go_simp) (hsA.out w.drew hG0.out) hn.out (by omega) (by simp) hG0.out.size ?_; intro v1 w1 hM1 hg1; have hG1 := Lib.hid (grown_trans hG0.out hg1); have q1 := hqc.out w1 hG1.out; clear hg1)
    | (refine step_join rfl _ _ 45 rfl w.heap.size 3 i0 Tryz.underlying45 hi0 hz0 hz1 hz2 v1 ([] ++ ms) (by go_simp) hM1 (some ⟨w.heap.size, 0, none⟩) 1 1 w.heap.size (w.heap.size + 1) [x] (by go_simp) hone.out rfl (by decide) (by simp [hn.out]; omega) hG1.out.size ?_; intro v2 w2 hM2 hg2; obtain ⟨A2, c2, e2, -⟩ := hM2.form; obtain ⟨hu0, hf0, hP⟩ := fin hr hR.out hM2 (grown_row hG1.out hM1 hg2); rw [hv.out] at hu0; obtain ⟨L2, hL2⟩ : ∃ L2, ([] ++ ms ++ [x]).length = L2 := ⟨_, rfl⟩; rw [hL2] at e2; subst e2; clear hM2 hg2 hL2)
    | (refine step_join rfl _ _ 45 rfl w.heap.size 3 i0 Tryz.underlying45 hi0 hz0 hz1 hz2 v1 ([] ++ ms) (by go_simp) (hM1.keep (World.grownBy_alloc _ _ none)) (some ⟨w1.heap.size, 0, none⟩) 1 1 w1.heap.size (w1.heap.size + 1) [x] (by go_simp) (one_sl w1 x _) rfl (by decide) (by simp [hn.out]; omega) (Nat.le_trans hG1.out.size (by simp)) ?_; intro v2 w2 hM2 hg2; obtain ⟨A2, c2, e2, -⟩ := hM2.form; obtain ⟨hu0, hf0, hP⟩ := fin hr hR.out hM2 (grown_row (grown_alloc hG1.out _) (hM1.keep (World.grownBy_alloc _ _ none)) hg2); rw [hv.out] at hu0; obtain ⟨L2, hL2⟩ : ∃ L2, ([] ++ ms ++ [x]).length = L2 := ⟨_, rfl⟩; rw [hL2] at e2; subst e2; clear hM2 hg2 hL2))
  all_goals
    rw [List.nil_append] at hP
    go_wp2_with fail
    all_goals
      go_ret
      exact ⟨rfl, hP⟩
theorem remove_no (x : Int) (hrk : ∃ a : Int, Calls Tryz.prog 12 #[.pointer (some ⟨R, 0, none⟩), .int .i64 x] w fun e w' => e = .returned (.tuple #[.int .i64 a, .bool false]) ∧ w = w') :
    Calls Tryz.prog 24 #[.pointer (some ⟨R, 0, none⟩), .int .i64 x] w fun e w' => e = .returned (.int .i64 1) ∧ w = w' := by
  obtain ⟨a, hrk⟩ := hrk
  replace hrk := Lib.hid hrk
  go_enter Tryz.func24, Tryz.ntmps24
  go_wp2_with fail
  refine hrk.out.mono ?_; rintro e w1 ⟨rfl, rfl⟩
  go_wp2_with fail
  go_ret
  exact ⟨rfl, rfl⟩
theorem filt_hit {x : Int} {xs : List Int} {k : Nat} (hk : k < xs.length) (h : gd xs k = x) : (xs.take (k + 1)).filter (fun y => y != x) = (xs.take k).filter (fun y => y != x) := by
  have e : gd xs k = xs[k] := gd_lt hk
  rw [List.take_add_one, List.filter_append, List.getElem?_eq_getElem hk, ← e, h]; simp
theorem filt_miss {x : Int} {xs : List Int} {k : Nat} (hk : k < xs.length) (h : gd xs k ≠ x) : (xs.take (k + 1)).filter (fun y => y != x) = (xs.take k).filter (fun y => y != x) ++ [gd xs k] := by
  have e : gd xs k = xs[k] := gd_lt hk
  rw [List.take_add_one, List.filter_append, List.getElem?_eq_getElem hk, ← e]; simp [h]
theorem filt_len {x : Int} {xs : List Int} (k : Nat) : ((xs.take k).filter (fun y => y != x)).length ≤ k := Nat.le_trans (List.length_filter_le _ _) (by simp; omega)
set_option maxRecDepth 100000 in
set_option maxHeartbeats 4000000 in
theorem remove_ok (x : Int) (h : RQ w R v ls) {r : Nat} (hr : r < 32) (hl : (ls r).length ≤ 256) (hrk : Calls Tryz.prog 12 #[.pointer (some ⟨R, 0, none⟩), .int .i64 x] w fun e w' => e = .returned (.tuple #[.int .i64 r, .bool true]) ∧ w = w') :
    Calls Tryz.prog 24 #[.pointer (some ⟨R, 0, none⟩), .int .i64 x] w fun e w' => e = .returned (.int .i64 0) ∧ Post w R v (upd ls r ((ls r).filter (fun y => y != x))) w' := by
  obtain ⟨i0, hi, hz0, hz1, hz2⟩ := info_parts infoI
  obtain ⟨n, hn⟩ : ∃ n, (ls r).length = n := ⟨_, rfl⟩
  obtain ⟨A, c, hv, hc, hcm, hsl, q⟩ := h.row hr hn
  have r0 : (0 : Int) ≤ (r : Int) := Int.natCast_nonneg _
  have r32 : (r : Int) < 32 := by omega
  rw [hn] at hl
  have hR := Lib.hid h
  have hq : Hid (∀ W, w.grownBy W none → W.cell? ⟨R, r, none⟩ = some (.slice A n c)) := fun W hg => by rw [← hv]; exact (hR.out.keep hg).at hr
  have hsA : Hid (∀ W, w.grownBy W none → SlA W 0 w.heap.size .i64 A (ls r)) := fun W hg => hsl.kept hg (by simp)
  have hall : Hid (((ls r).take n).filter (fun y => y != x) = (ls r).filter (fun y => y != x)) := by show _ = _; rw [← hn, List.take_length]
  replace hv := Lib.hid hv
  replace hn := Lib.hid hn
  replace hrk := Lib.hid hrk
  clear hsl h
  go_enter Tryz.func24, Tryz.ntmps24
  go_wp2_with fail
  refine hrk.out.mono ?_; rintro e w1 ⟨rfl, rfl⟩
  go_wp2_with fail
  go_loopw [7, 8] (fun u i wr => ∃ k : Nat, k ≤ n ∧ i = .int .i64 k ∧ Hid (Mine wr w.heap.size 3 .i64 u (((ls r).take k).filter (fun y => y != x))) ∧ Hid (w.grownBy wr none)) (fun _ i _ => n - (intOf i).toNat)
  case atStart => exact ⟨0, Nat.zero_le _, rfl, Mine.nil _ _ _ _, grown_refl _ _⟩
  case round =>
    obtain ⟨k, hk, rfl, hM, hg⟩ := hrel
    clear q
    have q := hq.out wr hg.out
    have hul := filt_len (x := x) (xs := ls r) k
    obtain ⟨A1, d1, rfl, hd1, hd2, -⟩ := hM.out.form
    by_cases hlt : k < n
    · have hkI : (k : Int) < (n : Int) := by omega
      have hlt2 : k < (ls r).length := by rw [hn.out]; exact hlt
      obtain ⟨b, o, hA, qc⟩ := (hsA.out wr hg.out).at hlt2
      subst hA
      by_cases he : gd (ls r) k = x
      · have hu := Lib.hid (filt_hit hlt2 he)
        have d2 : (gd (ls r) k != x) = false := by simp [he]
        generalize gd (ls r) k = y at *
        clear he hlt2
        go_wp2_with fail
        go_roundw
        case rel => exact ⟨k + 1, by omega, by go_num, by show Mine _ _ _ _ _ _; rw [hu.out]; exact hM.out, hg⟩
        case measure => exact meas n k hlt
      · have hu := Lib.hid (filt_miss hlt2 he)
        have d2 : (gd (ls r) k != x) = true := by rw [bne_iff_ne]; exact he
        generalize gd (ls r) k = y at *
        clear he hlt2
        obtain ⟨m, hm⟩ : ∃ m, (((ls r).take k).filter (fun y => y != x)).length = m := ⟨_, rfl⟩
        have hgA := Lib.hid (World.grownBy_alloc wr (.cells #[.int .i64 y] 3) none)
        have hone := Lib.hid (one_sl wr y 3)
        have hMh : Hid (Mine (wr.alloc (.cells #[.int .i64 y] 3)) w.heap.size 3 .i64 (.slice A1 m d1) (((ls r).take k).filter (fun y => y != x))) := by
          have := hM.out.keep hgA.out
          rw [hm] at this; exact this
        rw [hm] at hul hd1 ⊢
        replace hm := Lib.hid hm
        have hws := hg.out.size
        go_wp2_with (at_builtin; refine wpList_join rfl _ _ 45 rfl w.heap.size 3 i0 Tryz.underlying45 hi hz0 hz1 hz2 (.slice A1 m d1) (((ls r).take k).filter (fun y => y != x)) rfl hMh.out (some ⟨wr.heap.size, 0, none⟩) 1 1 wr.heap.size (wr.heap.size + 1) [y] rfl hone.out rfl (by decide) (by rw [hm.out]; omega) (Nat.le_trans hws (by simp)) ?_; intro v' w5 hM5 hgrow)
        go_roundw
        case rel => exact ⟨k + 1, by omega, by go_num, by show Mine _ _ _ _ _ _; rw [hu.out]; exact hM5, grown_row (grown_trans hg.out hgA.out) hMh.out hgrow⟩
        case measure => exact meas n k hlt
    · obtain rfl : n = k := by omega
      have hM2 : Hid (Mine wr w.heap.size 3 .i64 (.slice A1 (((ls r).take n).filter (fun y => y != x)).length d1) ((ls r).filter (fun y => y != x))) := by show Mine _ _ _ _ _ _; rw [← hall.out]; exact hM.out
      obtain ⟨m, hm⟩ : ∃ m, (((ls r).take n).filter (fun y => y != x)).length = m := ⟨_, rfl⟩
      rw [hm] at hM2 ⊢
      clear hul hd1 hd2 hm
      obtain ⟨hu0, hf0, hP⟩ := fin hr hR.out hM2.out hg.out
      rw [hv.out] at hu0
      replace hP := Lib.hid hP
      clear hM
      go_wp2_with fail
      go_ret
      exact ⟨rfl, hP.out⟩
end RefD
end Go.Proofs.YtdbddfbdhgohbaaGreatDoor
