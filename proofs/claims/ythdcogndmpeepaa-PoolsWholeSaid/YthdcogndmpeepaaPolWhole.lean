/- PoolsWhole. -/
import Derived.Test.YthdcogndmpeepaaPolA
import Derived.Test.YthdcogndmpeepaaRws
namespace Go.Proofs.Ythdcogndmpeepaa
open Go.RowKit Go.Shelf Tk
set_option linter.unusedVariables false
set_option linter.unusedSimpArgs false

theorem four (r : Nat) : ((r : Int) % 4 == 0) = true ∨ (((r : Int) % 4 == 0) = false ∧ ((r : Int) % 4 == 1) = true) ∨ (((r : Int) % 4 == 0) = false ∧ ((r : Int) % 4 == 1) = false ∧ ((r : Int) % 4 == 2) = true) ∨
    (((r : Int) % 4 == 0) = false ∧ ((r : Int) % 4 == 1) = false ∧ ((r : Int) % 4 == 2) = false) := by
  simp only [beq_iff_eq, beq_eq_false_iff_ne]; omega
theorem alloc_whole {B : Nat} {os : List Int} (v : Int) (w : World) (h : Pl w B os) :
    Calls Try.prog 10 #[.pointer (some ⟨B, 0, none⟩), .int .u32 v] w fun e w' =>
      (∃ j : Nat, e = .returned (.tuple #[.int .i64 j, .int .i64 0]) ∧ j < os.length ∧ gd os j = 0 ∧ Pl w' B (os.set j v) ∧ w.grownBy w' (some B)) ∨
      (∃ f : Int, e = .returned (.tuple #[.int .i64 0, .int .i64 f]) ∧ (f == 0) = false ∧ Pl w' B os ∧ w.grownBy w' (some B)) := by
  by_cases hv : v = 0
  · subst hv
    refine (alloc_zero w h).mono ?_
    rintro e w' ⟨rfl, rfl⟩
    exact .inr ⟨1, rfl, rfl, h, grown_refl _ _⟩
  · refine (alloc_any v hv w h).mono ?_
    rintro e w' (⟨j, rfl, h1, h2, -, hP, hg⟩ | ⟨rfl, -, n, rfl⟩)
    · exact .inl ⟨j, rfl, h1, h2, hP, hg⟩
    · exact .inr ⟨11, rfl, rfl, h.drewN n, grown_drewN (grown_refl _ _) n⟩
theorem free_whole {B : Nat} {os : List Int} (v b : Int) (w : World) (h : Pl w B os) :
    Calls Try.prog 11 #[.pointer (some ⟨B, 0, none⟩), .int .u32 v, .int .i64 b] w fun e w' =>
      (∃ j : Nat, e = .returned (.int .i64 0) ∧ b = j ∧ j < os.length ∧ gd os j = v ∧ Pl w' B (os.set j 0) ∧ w.grownBy w' (some B)) ∨
      (∃ f : Int, e = .returned (.int .i64 f) ∧ (f == 0) = false ∧ Pl w' B os ∧ w.grownBy w' (some B)) := by
  by_cases ha : v = 0 ∨ b < 0 ∨ (os.length : Int) ≤ b
  · refine (free_arg v b ha w h).mono ?_
    rintro e w' ⟨rfl, rfl⟩
    exact .inr ⟨1, rfl, rfl, h, grown_refl _ _⟩
  · obtain ⟨j, rfl⟩ := Int.eq_ofNat_of_zero_le (show 0 ≤ b by omega)
    by_cases he : gd os j = v
    · refine (free_ok v (by omega) j (by omega) he w h).mono ?_
      rintro e w' ⟨rfl, hP, hg⟩
      exact .inl ⟨j, rfl, rfl, by omega, he, hP, hg⟩
    · refine (free_owner v (by omega) j (by omega) he w h).mono ?_
      rintro e w' ⟨rfl, rfl⟩
      exact .inr ⟨13, rfl, rfl, h, grown_refl _ _⟩
theorem owners_n {B : Nat} {os : List Int} (N : Nat) (hN : os.length = N) (w : World) (h : Pl w B os) :
    Calls Try.prog 13 #[.pointer (some ⟨B, 0, none⟩)] w fun x w' => ∃ A c, x = .returned (.slice A N c) ∧ N ≤ c ∧ Mine w' w.heap.size 22 .u32 (.slice A N c) os ∧ w.grownBy w' none := by
  subst hN; exact owners_ok w h
/-- An act's cells. -/
def act3 (r v z : Int) (i : Nat) : Value := if i = 0 then .int .u8 r else if i = 1 then .int .u32 v else .int .i64 z
set_option maxRecDepth 100000 in
set_option maxHeartbeats 16000000 in
theorem poolsWhole_walk (m : Int) (wm : (Lit.int .u8 m).wf = true) (A0 : Option Addr) (c0 : Nat) (L : Nat) (R : Nat → Nat → Int) (hl0 : L ≤ c0) (w : World)
    (hs0 : RowsA w [.u8, .u32, .i64] A0 L R) (hf0 : ∀ i, i < L → ∀ q, q < [IntKind.u8, .u32, .i64].length → (Lit.int ([IntKind.u8, .u32, .i64].getD q .u8) (R i q)).wf = true) (hb0 : L * 16 ≤ 140737488351232) :
    Calls Try.prog 4 #[.int .u8 m, .slice A0 L c0] w fun e w' => e = .returned (.bool true) ∧ w.grownBy w' none := by
  have hfit : ∀ i, i < L → 0 ≤ R i 0 ∧ R i 0 < 256 := fun i hi => by
    have := hf0 i hi 0 (by decide)
    exact wf_u8 this
  replace hfit := Lib.hid hfit
  clear hf0
  by_cases hlen : 100 < L
  · have hd : decide ((100 : Int) < (L : Int)) = true := decide_eq_true (by omega)
    clear hlen
    go_enter Try.func4, Try.ntmps4
    go_wp2_with fail
    refine (alive_any _).mono ?_; rintro e wd ⟨rfl, hg⟩
    go_wp2_with fail
    refine (alive_any _).mono ?_; rintro e we ⟨rfl, hg2⟩
    go_wp2_with fail
    go_ret
    exact ⟨rfl, grown_trans hg hg2⟩
  · have hL : L ≤ 100 := by omega
    have hd : decide ((100 : Int) < (L : Int)) = false := decide_eq_false (by omega)
    clear hlen
    obtain ⟨m1, m2⟩ := wf_u8 wm
    clear wm
    obtain ⟨N, hN, hN1, hN2⟩ : ∃ N : Nat, (1 + m % 64) = (N : Int) ∧ 1 ≤ N ∧ N ≤ 64 := ⟨(m % 64).toNat + 1, by omega, by omega, by omega⟩
    replace hN := Lib.hid hN
    have hK0 := Lib.hid (fun wr (h : w.grownBy wr none) => hs0.kept h)
    clear hs0
    go_enter Try.func4, Try.ntmps4
    go_wp2_with fail
    refine (alive_any _).mono ?_; rintro e wd ⟨rfl, hg⟩
    have hwd := hg.size
    go_wp2_with fail
    refine (of_ok m m1 m2 N hN.out _).mono ?_; rintro e wa ⟨rfl, hP, hga, hsz⟩
    have hgw := grown_trans hg hga
    obtain ⟨B, hB⟩ : ∃ B, wd.heap.size = B := ⟨_, rfl⟩
    have hBw : w.heap.size ≤ B := by omega
    rw [hB] at hP ⊢
    clear hB hsz hg hga
    go_wp2_with fail
    rw [hN.out]
    go_loopw [7] (fun i wr => ∃ (k : Nat) (os : List Int), k ≤ L ∧ i = .int .i64 k ∧ Hid (os.length = N) ∧ Pl wr B os ∧ w.grownBy wr none) (fun i _ => L - (intOf i).toNat)
    case atStart => exact ⟨0, _, Nat.zero_le _, rfl, List.length_replicate, hP, hgw⟩
    case round =>
      obtain ⟨k, os, hk, rfl, hol, hP, hg⟩ := hrel
      by_cases hlt : k < L
      · obtain ⟨b, o, rfl, hb, hcs⟩ := (hK0.out _ hg).at hlt
        have hc0 := hcs 0 (by decide)
        have hc1 := hcs 1 (by decide)
        have hc2 := hcs 2 (by decide)
        obtain ⟨r1, r2⟩ := hfit.out k hlt
        generalize R k 0 = r at *
        generalize R k 1 = v at *
        generalize R k 2 = z at *
        obtain ⟨r, rfl⟩ := Int.eq_ofNat_of_zero_le r1
        have hr := four r
        clear r1 hcs
        simp only [List.length_cons, List.length_nil, Nat.reduceAdd, Nat.add_zero, List.getD_cons_zero, List.getD_cons_succ] at hc0 hc1 hc2
        have hgA := World.grownBy_alloc wr (.cells #[.int .u8 (r : Int), .int .u32 v, .int .i64 z] 41) none
        have hX := Arr.new wr #[.int .u8 (r : Int), .int .u32 v, .int .i64 z] 41 3 (act3 r v z) rfl (fun i hi => by
          rcases (by omega : i = 0 ∨ i = 1 ∨ i = 2) with rfl | rfl | rfl <;> rfl)
        have hBr := hP.arr.lt
        go_wp2_with fail
        refine (owners_n N hol.out _ (hP.keep hgA)).mono ?_; rintro e w2 ⟨A2, k2, rfl, hk2, hM2, g2⟩
        have hgA2 := grown_trans hgA g2
        have hP3 := hP.keep hgA2
        have hg3 := grown_trans hg hgA2
        have hX3 := hX.kept g2 (by simp)
        have hs3 := hM2.sl
        have hBs : B < (wr.alloc (.cells #[.int .u8 (r : Int), .int .u32 v, .int .i64 z] 41)).heap.size := by rw [World.size_alloc]; omega
        replace hBs := Lib.hid hBs
        have hXB : ¬ B = wr.heap.size := by omega
        replace hXB := Lib.hid hXB
        generalize wr.heap.size = X at *
        clear hc0 hc1 hc2 hP hg hX hM2 g2 hgA hgA2
        have hc0 : w2.cell? ⟨X, 0, none⟩ = some (.int .u8 r) := hX3.cell (i := 0) (by decide)
        have hc1 : w2.cell? ⟨X, 1, none⟩ = some (.int .u32 v) := hX3.cell (i := 1) (by decide)
        have hc2 : w2.cell? ⟨X, 2, none⟩ = some (.int .i64 z) := hX3.cell (i := 2) (by decide)
        rcases hr with d0 | ⟨d0, d1⟩ | ⟨d0, d1, d2⟩ | ⟨d0, d1, d2⟩
        · go_wp2_with fail
          refine (alloc_whole v _ hP3).mono ?_; rintro e w4 (⟨j, rfl, hj, hj0, hP4, g4⟩ | ⟨f, rfl, hf, hP4, g4⟩)
          · have hjN : j < N := by rw [← hol.out]; exact hj
            have hs3j := hs3.kept g4 (by rintro b hb; cases hb; left; exact hBs.out)
            obtain ⟨bb1, oo1, rfl, hd1⟩ := hs3j.at hj
            rw [hj0] at hd1
            have hjI : (j : Int) < (N : Int) := by omega
            have hnlt : ¬ (j : Int) < 0 := by omega
            have hnge : ¬ N ≤ j := by omega
            replace hj0 := Lib.hid hj0
            have hX4 := hX3.kept g4 (by simp; exact hXB.out)
            have hs4 := hs3.kept g4 (by rintro b hb; cases hb; left; exact hBs.out)
            have hg4 := grown_step hg3 g4 hBw
            have hol4 : Hid ((os.set j v).length = N) := by show _ = _; rw [List.length_set]; exact hol.out
            have hsame : Hid (∀ q : Nat, q < N → (((q : Int) != (j : Int)) = true ∧ ((q : Int) == (j : Int)) = false ∧ gd (os.set j v) q = gd os q) ∨ (((q : Int) != (j : Int)) = false ∧ ((q : Int) == (j : Int)) = true ∧ gd (os.set j v) q = v)) := fun q hq => by
              by_cases e : q = j
              · subst e; right
                exact ⟨by rw [bne_eq_false_iff_eq], by rw [beq_iff_eq], by rw [gd_set hj, if_pos rfl]⟩
              · left
                exact ⟨by rw [bne_iff_ne]; omega, by rw [beq_eq_false_iff_ne]; omega, by rw [gd_set hj, if_neg e]⟩
            go_wp2_with fail
            refine (owners_n N hol4.out _ hP4).mono ?_; rintro e w5 ⟨A5, k5, rfl, hk5, hM5, g5⟩
            have hP5 := hP4.keep g5
            have hg5 := grown_trans hg4 g5
            have hs5 := hs4.kept g5 (by simp)
            have hs6 := hM5.sl
            obtain ⟨os5, hos5⟩ : ∃ os5, os.set j v = os5 := ⟨_, rfl⟩
            rw [hos5] at hP5 hs6 hol4 hsame
            replace hos5 := Lib.hid hos5
            have hcl := Lib.hid (cnt_le 0 os5)
            clear hP4 hP3 hM5 hs4 hs3 hg3 hX3 hX4 hc0 hc1 hc2 g4
            go_wp2_with fail
            go_loopw [15, 16] (fun fr i wr5 => ∃ q : Nat, q ≤ N ∧ i = .int .i64 q ∧ fr = .int .i64 (cnt 0 os5 q) ∧ Drawn w5 wr5) (fun _ i _ => N - (intOf i).toNat)
            case atStart => exact ⟨0, Nat.zero_le _, rfl, rfl, Drawn.refl _⟩
            case round =>
              obtain ⟨q, hq, rfl, rfl, hdr⟩ := hrel
              have hcq := hcl.out q
              by_cases hqN : q < N
              · have hql : q < os.length := by rw [hol.out]; exact hqN
                have hql5 : q < os5.length := by rw [hol4.out]; exact hqN
                have hd2 := (hdr.sl hs5).cell hql
                have hz := hsame.out q hqN
                obtain ⟨bb3, oo3, rfl, hd3⟩ := (hdr.sl hs6).at hql5
                have hq0 : (0 : Int) ≤ (q : Int) := Int.natCast_nonneg _
                have hqI : (q : Int) < (N : Int) := by omega
                by_cases hz0 : gd os5 q = 0
                · have hs := Lib.hid (cnt_succ_eq hql5 hz0)
                  have hzb : (gd os5 q == 0) = true := by rw [beq_iff_eq]; exact hz0
                  replace hz0 := Lib.hid hz0
                  clear hql hql5
                  rcases hz with ⟨h1, h2, h3⟩ | ⟨h1, h2, h3⟩
                  all_goals
                    all_goals
                      rw [h3] at hd3 hzb
                      replace h3 := Lib.hid h3
                      go_wp2_with fail
                      go_quiet (fail)
                      go_wp2_with fail
                      go_roundw
                      case rel => exact ⟨q + 1, by omega, by go_num, by rw [hs.out]; go_num, hdr.step _⟩
                      case measure => simp [intOf] <;> omega
                · have hs := Lib.hid (cnt_succ_ne hql5 hz0)
                  have hzb : (gd os5 q == 0) = false := by rw [beq_eq_false_iff_ne]; exact hz0
                  replace hz0 := Lib.hid hz0
                  clear hql hql5
                  rcases hz with ⟨h1, h2, h3⟩ | ⟨h1, h2, h3⟩
                  all_goals
                    try exact absurd h3 hz0.out
                    all_goals
                      rw [h3] at hd3 hzb
                      replace h3 := Lib.hid h3
                      go_wp2_with fail
                      go_quiet (fail)
                      go_wp2_with fail
                      go_roundw
                      case rel => exact ⟨q + 1, by omega, by go_num, by rw [hs.out], hdr.step _⟩
                      case measure => simp [intOf] <;> omega
              · obtain rfl : N = q := by omega
                obtain ⟨nd, rfl⟩ := hdr
                have hP6 := hP5.drewN nd
                have hlf := left_ok _ hP6
                rw [← cnt_all, hol4.out] at hlf
                replace hlf := Lib.hid hlf
                go_wp2_with fail
                refine hlf.out.mono ?_; rintro e w7 ⟨rfl, n7, rfl⟩
                have hP7 := hP5.drewN (nd + n7)
                have hg7 := grown_drewN hg5 (nd + n7)
                go_wp2_with fail
                go_roundw
                case rel => exact ⟨k + 1, os5, by omega, by go_num, hol4, hP7, hg7⟩
                case measure => simp [intOf] <;> omega
          · have hX4 := hX3.kept g4 (by simp; exact hXB.out)
            have hs4 := hs3.kept g4 (by rintro b hb; cases hb; left; exact hBs.out)
            have hg4 := grown_step hg3 g4 hBw
            have hol4 : Hid ((os).length = N) := hol
            go_wp2_with fail
            refine (owners_n N hol4.out _ hP4).mono ?_; rintro e w5 ⟨A5, k5, rfl, hk5, hM5, g5⟩
            have hP5 := hP4.keep g5
            have hg5 := grown_trans hg4 g5
            have hs5 := hs4.kept g5 (by simp)
            have hs6 := hM5.sl
            have hcl := Lib.hid (cnt_le 0 os)
            clear hP4 hP3 hM5 hs4 hs3 hg3 hX3 hX4 hc0 hc1 hc2 g4
            go_wp2_with fail
            go_loopw [15, 16] (fun fr i wr5 => ∃ q : Nat, q ≤ N ∧ i = .int .i64 q ∧ fr = .int .i64 (cnt 0 os q) ∧ Drawn w5 wr5) (fun _ i _ => N - (intOf i).toNat)
            case atStart => exact ⟨0, Nat.zero_le _, rfl, rfl, Drawn.refl _⟩
            case round =>
              obtain ⟨q, hq, rfl, rfl, hdr⟩ := hrel
              have hcq := hcl.out q
              by_cases hqN : q < N
              · have hql : q < os.length := by rw [hol.out]; exact hqN
                have hql5 : q < os.length := by rw [hol4.out]; exact hqN
                obtain ⟨bb2, oo2, rfl, hd2⟩ := (hdr.sl hs5).at hql
                have h1 : ((q : Int) != -1) = true := by rw [bne_iff_ne]; omega
                have h2 : ((q : Int) == -1) = false := by rw [beq_eq_false_iff_ne]; omega
                obtain ⟨bb3, oo3, rfl, hd3⟩ := (hdr.sl hs6).at hql5
                have hq0 : (0 : Int) ≤ (q : Int) := Int.natCast_nonneg _
                have hqI : (q : Int) < (N : Int) := by omega
                by_cases hz0 : gd os q = 0
                · have hs := Lib.hid (cnt_succ_eq hql5 hz0)
                  have hzb : (gd os q == 0) = true := by rw [beq_iff_eq]; exact hz0
                  replace hz0 := Lib.hid hz0
                  clear hql hql5
                  go_wp2_with fail
                  go_quiet (fail)
                  go_wp2_with fail
                  go_roundw
                  case rel => exact ⟨q + 1, by omega, by go_num, by rw [hs.out]; go_num, hdr.step _⟩
                  case measure => simp [intOf] <;> omega
                · have hs := Lib.hid (cnt_succ_ne hql5 hz0)
                  have hzb : (gd os q == 0) = false := by rw [beq_eq_false_iff_ne]; exact hz0
                  replace hz0 := Lib.hid hz0
                  clear hql hql5
                  go_wp2_with fail
                  go_quiet (fail)
                  go_wp2_with fail
                  go_roundw
                  case rel => exact ⟨q + 1, by omega, by go_num, by rw [hs.out], hdr.step _⟩
                  case measure => simp [intOf] <;> omega
              · obtain rfl : N = q := by omega
                obtain ⟨nd, rfl⟩ := hdr
                have hP6 := hP5.drewN nd
                have hlf := left_ok _ hP6
                rw [← cnt_all, hol4.out] at hlf
                replace hlf := Lib.hid hlf
                go_wp2_with fail
                refine hlf.out.mono ?_; rintro e w7 ⟨rfl, n7, rfl⟩
                have hP7 := hP5.drewN (nd + n7)
                have hg7 := grown_drewN hg5 (nd + n7)
                go_wp2_with fail
                go_roundw
                case rel => exact ⟨k + 1, os, by omega, by go_num, hol4, hP7, hg7⟩
                case measure => simp [intOf] <;> omega
        · go_wp2_with fail
          refine (alloc_whole v _ hP3).mono ?_; rintro e w4 (⟨j, rfl, hj, hj0, hP4, g4⟩ | ⟨f, rfl, hf, hP4, g4⟩)
          · have hjN : j < N := by rw [← hol.out]; exact hj
            have hs3j := hs3.kept g4 (by rintro b hb; cases hb; left; exact hBs.out)
            obtain ⟨bb1, oo1, rfl, hd1⟩ := hs3j.at hj
            rw [hj0] at hd1
            have hjI : (j : Int) < (N : Int) := by omega
            have hnlt : ¬ (j : Int) < 0 := by omega
            have hnge : ¬ N ≤ j := by omega
            replace hj0 := Lib.hid hj0
            have hX4 := hX3.kept g4 (by simp; exact hXB.out)
            have hs4 := hs3.kept g4 (by rintro b hb; cases hb; left; exact hBs.out)
            have hg4 := grown_step hg3 g4 hBw
            have hol4 : Hid ((os.set j v).length = N) := by show _ = _; rw [List.length_set]; exact hol.out
            have hsame : Hid (∀ q : Nat, q < N → (((q : Int) != (j : Int)) = true ∧ ((q : Int) == (j : Int)) = false ∧ gd (os.set j v) q = gd os q) ∨ (((q : Int) != (j : Int)) = false ∧ ((q : Int) == (j : Int)) = true ∧ gd (os.set j v) q = v)) := fun q hq => by
              by_cases e : q = j
              · subst e; right
                exact ⟨by rw [bne_eq_false_iff_eq], by rw [beq_iff_eq], by rw [gd_set hj, if_pos rfl]⟩
              · left
                exact ⟨by rw [bne_iff_ne]; omega, by rw [beq_eq_false_iff_ne]; omega, by rw [gd_set hj, if_neg e]⟩
            go_wp2_with fail
            refine (owners_n N hol4.out _ hP4).mono ?_; rintro e w5 ⟨A5, k5, rfl, hk5, hM5, g5⟩
            have hP5 := hP4.keep g5
            have hg5 := grown_trans hg4 g5
            have hs5 := hs4.kept g5 (by simp)
            have hs6 := hM5.sl
            obtain ⟨os5, hos5⟩ : ∃ os5, os.set j v = os5 := ⟨_, rfl⟩
            rw [hos5] at hP5 hs6 hol4 hsame
            replace hos5 := Lib.hid hos5
            have hcl := Lib.hid (cnt_le 0 os5)
            clear hP4 hP3 hM5 hs4 hs3 hg3 hX3 hX4 hc0 hc1 hc2 g4
            go_wp2_with fail
            go_loopw [15, 16] (fun fr i wr5 => ∃ q : Nat, q ≤ N ∧ i = .int .i64 q ∧ fr = .int .i64 (cnt 0 os5 q) ∧ Drawn w5 wr5) (fun _ i _ => N - (intOf i).toNat)
            case atStart => exact ⟨0, Nat.zero_le _, rfl, rfl, Drawn.refl _⟩
            case round =>
              obtain ⟨q, hq, rfl, rfl, hdr⟩ := hrel
              have hcq := hcl.out q
              by_cases hqN : q < N
              · have hql : q < os.length := by rw [hol.out]; exact hqN
                have hql5 : q < os5.length := by rw [hol4.out]; exact hqN
                have hd2 := (hdr.sl hs5).cell hql
                have hz := hsame.out q hqN
                obtain ⟨bb3, oo3, rfl, hd3⟩ := (hdr.sl hs6).at hql5
                have hq0 : (0 : Int) ≤ (q : Int) := Int.natCast_nonneg _
                have hqI : (q : Int) < (N : Int) := by omega
                by_cases hz0 : gd os5 q = 0
                · have hs := Lib.hid (cnt_succ_eq hql5 hz0)
                  have hzb : (gd os5 q == 0) = true := by rw [beq_iff_eq]; exact hz0
                  replace hz0 := Lib.hid hz0
                  clear hql hql5
                  rcases hz with ⟨h1, h2, h3⟩ | ⟨h1, h2, h3⟩
                  all_goals
                    all_goals
                      rw [h3] at hd3 hzb
                      replace h3 := Lib.hid h3
                      go_wp2_with fail
                      go_quiet (fail)
                      go_wp2_with fail
                      go_roundw
                      case rel => exact ⟨q + 1, by omega, by go_num, by rw [hs.out]; go_num, hdr.step _⟩
                      case measure => simp [intOf] <;> omega
                · have hs := Lib.hid (cnt_succ_ne hql5 hz0)
                  have hzb : (gd os5 q == 0) = false := by rw [beq_eq_false_iff_ne]; exact hz0
                  replace hz0 := Lib.hid hz0
                  clear hql hql5
                  rcases hz with ⟨h1, h2, h3⟩ | ⟨h1, h2, h3⟩
                  all_goals
                    try exact absurd h3 hz0.out
                    all_goals
                      rw [h3] at hd3 hzb
                      replace h3 := Lib.hid h3
                      go_wp2_with fail
                      go_quiet (fail)
                      go_wp2_with fail
                      go_roundw
                      case rel => exact ⟨q + 1, by omega, by go_num, by rw [hs.out], hdr.step _⟩
                      case measure => simp [intOf] <;> omega
              · obtain rfl : N = q := by omega
                obtain ⟨nd, rfl⟩ := hdr
                have hP6 := hP5.drewN nd
                have hlf := left_ok _ hP6
                rw [← cnt_all, hol4.out] at hlf
                replace hlf := Lib.hid hlf
                go_wp2_with fail
                refine hlf.out.mono ?_; rintro e w7 ⟨rfl, n7, rfl⟩
                have hP7 := hP5.drewN (nd + n7)
                have hg7 := grown_drewN hg5 (nd + n7)
                go_wp2_with fail
                go_roundw
                case rel => exact ⟨k + 1, os5, by omega, by go_num, hol4, hP7, hg7⟩
                case measure => simp [intOf] <;> omega
          · have hX4 := hX3.kept g4 (by simp; exact hXB.out)
            have hs4 := hs3.kept g4 (by rintro b hb; cases hb; left; exact hBs.out)
            have hg4 := grown_step hg3 g4 hBw
            have hol4 : Hid ((os).length = N) := hol
            go_wp2_with fail
            refine (owners_n N hol4.out _ hP4).mono ?_; rintro e w5 ⟨A5, k5, rfl, hk5, hM5, g5⟩
            have hP5 := hP4.keep g5
            have hg5 := grown_trans hg4 g5
            have hs5 := hs4.kept g5 (by simp)
            have hs6 := hM5.sl
            have hcl := Lib.hid (cnt_le 0 os)
            clear hP4 hP3 hM5 hs4 hs3 hg3 hX3 hX4 hc0 hc1 hc2 g4
            go_wp2_with fail
            go_loopw [15, 16] (fun fr i wr5 => ∃ q : Nat, q ≤ N ∧ i = .int .i64 q ∧ fr = .int .i64 (cnt 0 os q) ∧ Drawn w5 wr5) (fun _ i _ => N - (intOf i).toNat)
            case atStart => exact ⟨0, Nat.zero_le _, rfl, rfl, Drawn.refl _⟩
            case round =>
              obtain ⟨q, hq, rfl, rfl, hdr⟩ := hrel
              have hcq := hcl.out q
              by_cases hqN : q < N
              · have hql : q < os.length := by rw [hol.out]; exact hqN
                have hql5 : q < os.length := by rw [hol4.out]; exact hqN
                obtain ⟨bb2, oo2, rfl, hd2⟩ := (hdr.sl hs5).at hql
                have h1 : ((q : Int) != -1) = true := by rw [bne_iff_ne]; omega
                have h2 : ((q : Int) == -1) = false := by rw [beq_eq_false_iff_ne]; omega
                obtain ⟨bb3, oo3, rfl, hd3⟩ := (hdr.sl hs6).at hql5
                have hq0 : (0 : Int) ≤ (q : Int) := Int.natCast_nonneg _
                have hqI : (q : Int) < (N : Int) := by omega
                by_cases hz0 : gd os q = 0
                · have hs := Lib.hid (cnt_succ_eq hql5 hz0)
                  have hzb : (gd os q == 0) = true := by rw [beq_iff_eq]; exact hz0
                  replace hz0 := Lib.hid hz0
                  clear hql hql5
                  go_wp2_with fail
                  go_quiet (fail)
                  go_wp2_with fail
                  go_roundw
                  case rel => exact ⟨q + 1, by omega, by go_num, by rw [hs.out]; go_num, hdr.step _⟩
                  case measure => simp [intOf] <;> omega
                · have hs := Lib.hid (cnt_succ_ne hql5 hz0)
                  have hzb : (gd os q == 0) = false := by rw [beq_eq_false_iff_ne]; exact hz0
                  replace hz0 := Lib.hid hz0
                  clear hql hql5
                  go_wp2_with fail
                  go_quiet (fail)
                  go_wp2_with fail
                  go_roundw
                  case rel => exact ⟨q + 1, by omega, by go_num, by rw [hs.out], hdr.step _⟩
                  case measure => simp [intOf] <;> omega
              · obtain rfl : N = q := by omega
                obtain ⟨nd, rfl⟩ := hdr
                have hP6 := hP5.drewN nd
                have hlf := left_ok _ hP6
                rw [← cnt_all, hol4.out] at hlf
                replace hlf := Lib.hid hlf
                go_wp2_with fail
                refine hlf.out.mono ?_; rintro e w7 ⟨rfl, n7, rfl⟩
                have hP7 := hP5.drewN (nd + n7)
                have hg7 := grown_drewN hg5 (nd + n7)
                go_wp2_with fail
                go_roundw
                case rel => exact ⟨k + 1, os, by omega, by go_num, hol4, hP7, hg7⟩
                case measure => simp [intOf] <;> omega
        · go_wp2_with fail
          refine (free_whole v z _ hP3).mono ?_; rintro e w4 (⟨j, rfl, rfl, hj, hjv, hP4, g4⟩ | ⟨f, rfl, hf, hP4, g4⟩)
          · have hjN : j < N := by rw [← hol.out]; exact hj
            have hs3j := hs3.kept g4 (by rintro b hb; cases hb; left; exact hBs.out)
            obtain ⟨bb1, oo1, rfl, hd1⟩ := hs3j.at hj
            rw [hjv] at hd1
            have hjI : (j : Int) < (N : Int) := by omega
            have hnge : ¬ N ≤ j := by omega
            replace hjv := Lib.hid hjv
            have hX4 := hX3.kept g4 (by simp; exact hXB.out)
            have hc1 : w4.cell? ⟨X, 1, none⟩ = some (.int .u32 v) := hX4.cell (i := 1) (by decide)
            have hc2 : w4.cell? ⟨X, 2, none⟩ = some (.int .i64 j) := hX4.cell (i := 2) (by decide)
            have hs4 := hs3.kept g4 (by rintro b hb; cases hb; left; exact hBs.out)
            have hg4 := grown_step hg3 g4 hBw
            have hol4 : Hid ((os.set j 0).length = N) := by show _ = _; rw [List.length_set]; exact hol.out
            have hsame : Hid (∀ q : Nat, q < N → (((q : Int) != (j : Int)) = true ∧ ((q : Int) == (j : Int)) = false ∧ gd (os.set j 0) q = gd os q) ∨ (((q : Int) != (j : Int)) = false ∧ ((q : Int) == (j : Int)) = true ∧ gd (os.set j 0) q = 0)) := fun q hq => by
              by_cases e : q = j
              · subst e; right
                exact ⟨by rw [bne_eq_false_iff_eq], by rw [beq_iff_eq], by rw [gd_set hj, if_pos rfl]⟩
              · left
                exact ⟨by rw [bne_iff_ne]; omega, by rw [beq_eq_false_iff_ne]; omega, by rw [gd_set hj, if_neg e]⟩
            go_wp2_with fail
            go_quiet (fail)
            have hP4 := hP4.drewN nq
            have hg4 := grown_drewN hg4 nq
            have hs4 := hs4.drewN nq
            go_wp2_with fail
            refine (owners_n N hol4.out _ hP4).mono ?_; rintro e w5 ⟨A5, k5, rfl, hk5, hM5, g5⟩
            have hP5 := hP4.keep g5
            have hg5 := grown_trans hg4 g5
            have hs5 := hs4.kept g5 (by simp)
            have hs6 := hM5.sl
            obtain ⟨os5, hos5⟩ : ∃ os5, os.set j 0 = os5 := ⟨_, rfl⟩
            rw [hos5] at hP5 hs6 hol4 hsame
            replace hos5 := Lib.hid hos5
            have hcl := Lib.hid (cnt_le 0 os5)
            clear hP4 hP3 hM5 hs4 hs3 hg3 hX3 hX4 hc0 hc1 hc2 g4
            go_wp2_with fail
            go_loopw [15, 16] (fun fr i wr5 => ∃ q : Nat, q ≤ N ∧ i = .int .i64 q ∧ fr = .int .i64 (cnt 0 os5 q) ∧ Drawn w5 wr5) (fun _ i _ => N - (intOf i).toNat)
            case atStart => exact ⟨0, Nat.zero_le _, rfl, rfl, Drawn.refl _⟩
            case round =>
              obtain ⟨q, hq, rfl, rfl, hdr⟩ := hrel
              have hcq := hcl.out q
              by_cases hqN : q < N
              · have hql : q < os.length := by rw [hol.out]; exact hqN
                have hql5 : q < os5.length := by rw [hol4.out]; exact hqN
                have hd2 := (hdr.sl hs5).cell hql
                have hz := hsame.out q hqN
                obtain ⟨bb3, oo3, rfl, hd3⟩ := (hdr.sl hs6).at hql5
                have hq0 : (0 : Int) ≤ (q : Int) := Int.natCast_nonneg _
                have hqI : (q : Int) < (N : Int) := by omega
                by_cases hz0 : gd os5 q = 0
                · have hs := Lib.hid (cnt_succ_eq hql5 hz0)
                  have hzb : (gd os5 q == 0) = true := by rw [beq_iff_eq]; exact hz0
                  replace hz0 := Lib.hid hz0
                  clear hql hql5
                  rcases hz with ⟨h1, h2, h3⟩ | ⟨h1, h2, h3⟩
                  all_goals
                    all_goals
                      rw [h3] at hd3 hzb
                      replace h3 := Lib.hid h3
                      go_wp2_with fail
                      go_quiet (fail)
                      go_wp2_with fail
                      go_roundw
                      case rel => exact ⟨q + 1, by omega, by go_num, by rw [hs.out]; go_num, hdr.step _⟩
                      case measure => simp [intOf] <;> omega
                · have hs := Lib.hid (cnt_succ_ne hql5 hz0)
                  have hzb : (gd os5 q == 0) = false := by rw [beq_eq_false_iff_ne]; exact hz0
                  replace hz0 := Lib.hid hz0
                  clear hql hql5
                  rcases hz with ⟨h1, h2, h3⟩ | ⟨h1, h2, h3⟩
                  all_goals
                    try exact absurd h3 hz0.out
                    all_goals
                      rw [h3] at hd3 hzb
                      replace h3 := Lib.hid h3
                      go_wp2_with fail
                      go_quiet (fail)
                      go_wp2_with fail
                      go_roundw
                      case rel => exact ⟨q + 1, by omega, by go_num, by rw [hs.out], hdr.step _⟩
                      case measure => simp [intOf] <;> omega
              · obtain rfl : N = q := by omega
                obtain ⟨nd, rfl⟩ := hdr
                have hP6 := hP5.drewN nd
                have hlf := left_ok _ hP6
                rw [← cnt_all, hol4.out] at hlf
                replace hlf := Lib.hid hlf
                go_wp2_with fail
                refine hlf.out.mono ?_; rintro e w7 ⟨rfl, n7, rfl⟩
                have hP7 := hP5.drewN (nd + n7)
                have hg7 := grown_drewN hg5 (nd + n7)
                go_wp2_with fail
                go_roundw
                case rel => exact ⟨k + 1, os5, by omega, by go_num, hol4, hP7, hg7⟩
                case measure => simp [intOf] <;> omega
          · have hX4 := hX3.kept g4 (by simp; exact hXB.out)
            have hc1 : w4.cell? ⟨X, 1, none⟩ = some (.int .u32 v) := hX4.cell (i := 1) (by decide)
            have hc2 : w4.cell? ⟨X, 2, none⟩ = some (.int .i64 z) := hX4.cell (i := 2) (by decide)
            have hs4 := hs3.kept g4 (by rintro b hb; cases hb; left; exact hBs.out)
            have hg4 := grown_step hg3 g4 hBw
            have hol4 : Hid ((os).length = N) := hol
            go_wp2_with fail
            go_quiet (fail)
            have hP4 := hP4.drewN nq
            have hg4 := grown_drewN hg4 nq
            have hs4 := hs4.drewN nq
            go_wp2_with fail
            refine (owners_n N hol4.out _ hP4).mono ?_; rintro e w5 ⟨A5, k5, rfl, hk5, hM5, g5⟩
            have hP5 := hP4.keep g5
            have hg5 := grown_trans hg4 g5
            have hs5 := hs4.kept g5 (by simp)
            have hs6 := hM5.sl
            have hcl := Lib.hid (cnt_le 0 os)
            clear hP4 hP3 hM5 hs4 hs3 hg3 hX3 hX4 hc0 hc1 hc2 g4
            go_wp2_with fail
            go_loopw [15, 16] (fun fr i wr5 => ∃ q : Nat, q ≤ N ∧ i = .int .i64 q ∧ fr = .int .i64 (cnt 0 os q) ∧ Drawn w5 wr5) (fun _ i _ => N - (intOf i).toNat)
            case atStart => exact ⟨0, Nat.zero_le _, rfl, rfl, Drawn.refl _⟩
            case round =>
              obtain ⟨q, hq, rfl, rfl, hdr⟩ := hrel
              have hcq := hcl.out q
              by_cases hqN : q < N
              · have hql : q < os.length := by rw [hol.out]; exact hqN
                have hql5 : q < os.length := by rw [hol4.out]; exact hqN
                obtain ⟨bb2, oo2, rfl, hd2⟩ := (hdr.sl hs5).at hql
                have h1 : ((q : Int) != -1) = true := by rw [bne_iff_ne]; omega
                have h2 : ((q : Int) == -1) = false := by rw [beq_eq_false_iff_ne]; omega
                obtain ⟨bb3, oo3, rfl, hd3⟩ := (hdr.sl hs6).at hql5
                have hq0 : (0 : Int) ≤ (q : Int) := Int.natCast_nonneg _
                have hqI : (q : Int) < (N : Int) := by omega
                by_cases hz0 : gd os q = 0
                · have hs := Lib.hid (cnt_succ_eq hql5 hz0)
                  have hzb : (gd os q == 0) = true := by rw [beq_iff_eq]; exact hz0
                  replace hz0 := Lib.hid hz0
                  clear hql hql5
                  go_wp2_with fail
                  go_quiet (fail)
                  go_wp2_with fail
                  go_roundw
                  case rel => exact ⟨q + 1, by omega, by go_num, by rw [hs.out]; go_num, hdr.step _⟩
                  case measure => simp [intOf] <;> omega
                · have hs := Lib.hid (cnt_succ_ne hql5 hz0)
                  have hzb : (gd os q == 0) = false := by rw [beq_eq_false_iff_ne]; exact hz0
                  replace hz0 := Lib.hid hz0
                  clear hql hql5
                  go_wp2_with fail
                  go_quiet (fail)
                  go_wp2_with fail
                  go_roundw
                  case rel => exact ⟨q + 1, by omega, by go_num, by rw [hs.out], hdr.step _⟩
                  case measure => simp [intOf] <;> omega
              · obtain rfl : N = q := by omega
                obtain ⟨nd, rfl⟩ := hdr
                have hP6 := hP5.drewN nd
                have hlf := left_ok _ hP6
                rw [← cnt_all, hol4.out] at hlf
                replace hlf := Lib.hid hlf
                go_wp2_with fail
                refine hlf.out.mono ?_; rintro e w7 ⟨rfl, n7, rfl⟩
                have hP7 := hP5.drewN (nd + n7)
                have hg7 := grown_drewN hg5 (nd + n7)
                go_wp2_with fail
                go_roundw
                case rel => exact ⟨k + 1, os, by omega, by go_num, hol4, hP7, hg7⟩
                case measure => simp [intOf] <;> omega
        · go_wp2_with fail
          go_roundw
          case rel => exact ⟨k + 1, os, by omega, by go_num, hol, hP3, hg3⟩
          case measure => simp [intOf] <;> omega
      · go_wp2_with fail
        go_ret
        exact ⟨rfl, hg⟩
end Go.Proofs.Ythdcogndmpeepaa
