/- PoolsTwo. -/
import Derived.Test.YthdcogndmpeepaaPolA
import Derived.Test.YthdcogndmpeepaaRws
namespace Go.Proofs.Ythdcogndmpeepaa
open Go.RowKit Go.Shelf Tk
set_option linter.unusedVariables false
set_option linter.unusedSimpArgs false

theorem four (r : Nat) : ((r : Int) % 4 == 0) = true ∨ (((r : Int) % 4 == 0) = false ∧ ((r : Int) % 4 == 1) = true) ∨ (((r : Int) % 4 == 0) = false ∧ ((r : Int) % 4 == 1) = false ∧ ((r : Int) % 4 == 2) = true) ∨
    (((r : Int) % 4 == 0) = false ∧ ((r : Int) % 4 == 1) = false ∧ ((r : Int) % 4 == 2) = false) := by
  simp only [beq_iff_eq, beq_eq_false_iff_ne]; omega
/-- Whatever is asked: what is answered, and what the owners are then; what is refused changes nothing. -/
theorem alloc_every {B : Nat} {os : List Int} (v : Int) (w : World) (h : Pl w B os) :
    Calls Try.prog 10 #[.pointer (some ⟨B, 0, none⟩), .int .u32 v] w fun e w' => ∃ (j f : Int) (os' : List Int), e = .returned (.tuple #[.int .i64 j, .int .i64 f]) ∧ Pl w' B os' ∧ os'.length = os.length ∧ (f ≠ 0 → os' = os) ∧ w.grownBy w' (some B) := by
  by_cases hv : v = 0
  · subst hv
    refine (alloc_zero w h).mono ?_
    rintro e w' ⟨rfl, rfl⟩
    exact ⟨0, 1, os, rfl, h, rfl, fun _ => rfl, grown_refl _ _⟩
  · refine (alloc_any v hv w h).mono ?_
    rintro e w' (⟨j, rfl, -, -, -, hP, hg⟩ | ⟨rfl, -, n, rfl⟩)
    · exact ⟨j, 0, _, rfl, hP, List.length_set, fun h => absurd rfl h, hg⟩
    · exact ⟨0, 11, os, rfl, h.drewN n, rfl, fun _ => rfl, grown_drewN (grown_refl _ _) n⟩
theorem free_every {B : Nat} {os : List Int} (v b : Int) (w : World) (h : Pl w B os) :
    Calls Try.prog 11 #[.pointer (some ⟨B, 0, none⟩), .int .u32 v, .int .i64 b] w fun e w' => ∃ (f : Int) (os' : List Int), e = .returned (.int .i64 f) ∧ Pl w' B os' ∧ os'.length = os.length ∧ (f ≠ 0 → os' = os) ∧ w.grownBy w' (some B) := by
  by_cases ha : v = 0 ∨ b < 0 ∨ (os.length : Int) ≤ b
  · refine (free_arg v b ha w h).mono ?_
    rintro e w' ⟨rfl, rfl⟩
    exact ⟨1, os, rfl, h, rfl, fun _ => rfl, grown_refl _ _⟩
  · obtain ⟨j, rfl⟩ := Int.eq_ofNat_of_zero_le (show 0 ≤ b by omega)
    by_cases he : gd os j = v
    · refine (free_ok v (by omega) j (by omega) he w h).mono ?_
      rintro e w' ⟨rfl, hP, hg⟩
      exact ⟨0, _, rfl, hP, List.length_set, fun h => absurd rfl h, hg⟩
    · refine (free_owner v (by omega) j (by omega) he w h).mono ?_
      rintro e w' ⟨rfl, rfl⟩
      exact ⟨13, os, rfl, h, rfl, fun _ => rfl, grown_refl _ _⟩
theorem all_every {B : Nat} {os : List Int} (v : Int) (w : World) (h : Pl w B os) :
    Calls Try.prog 12 #[.pointer (some ⟨B, 0, none⟩), .int .u32 v] w fun e w' => ∃ (f : Int) (os' : List Int), e = .returned (.int .i64 f) ∧ Pl w' B os' ∧ os'.length = os.length ∧ w.grownBy w' (some B) := by
  by_cases hv : v = 0
  · subst hv
    refine (all_zero _ w).mono ?_
    rintro e w' ⟨rfl, hg⟩
    exact ⟨0, os, rfl, h.keep hg, rfl, grown_weaken _ hg⟩
  · refine (all_blocks v hv w h).mono ?_
    rintro e w' ⟨rfl, hP, hg⟩
    exact ⟨_, _, rfl, hP, List.length_map _, hg⟩
theorem same_ok (A A' : Option Addr) (c c' lo hi lo' hi' N : Nat) (os : List Int) (hN : os.length = N) (h64 : N ≤ 64) (hc : N ≤ c) (hc' : N ≤ c') (w : World) (hs : SlA w lo hi .u32 A os) (hs' : SlA w lo' hi' .u32 A' os) :
    Calls Try.prog 17 #[.slice A N c, .slice A' N c'] w fun e w' => e = .returned (.bool true) ∧ ∃ n, w.drewN n = w' := by
  subst hN
  refine (sameWords_any A A' c c' lo hi lo' hi' os os w hc hc' (by omega) (by omega) hs hs').mono ?_
  rw [decide_eq_true rfl]
  rintro e w' h; exact h
theorem owners_n {B : Nat} {os : List Int} (N : Nat) (hN : os.length = N) (w : World) (h : Pl w B os) :
    Calls Try.prog 13 #[.pointer (some ⟨B, 0, none⟩)] w fun x w' => ∃ A c, x = .returned (.slice A N c) ∧ N ≤ c ∧ Mine w' w.heap.size 22 .u32 (.slice A N c) os ∧ w.grownBy w' none := by
  subst hN; exact owners_ok w h
/-- An act's cells. -/
def act3 (r v z : Int) (i : Nat) : Value := if i = 0 then .int .u8 r else if i = 1 then .int .u32 v else .int .i64 z
set_option maxRecDepth 100000 in
set_option maxHeartbeats 8000000 in
theorem poolsTwo_walk (m : Int) (wm : (Lit.int .u8 m).wf = true) (A0 : Option Addr) (c0 : Nat) (L : Nat) (R : Nat → Nat → Int) (hl0 : L ≤ c0) (w : World)
    (hs0 : RowsA w [.u8, .u32, .i64] A0 L R) (hf0 : ∀ i, i < L → ∀ q, q < [IntKind.u8, .u32, .i64].length → (Lit.int ([IntKind.u8, .u32, .i64].getD q .u8) (R i q)).wf = true) (hb0 : L * 16 ≤ 140737488351232) :
    Calls Try.prog 8 #[.int .u8 m, .slice A0 L c0] w fun e w' => e = .returned (.bool true) ∧ w.grownBy w' none := by
  have hfit : ∀ i, i < L → 0 ≤ R i 0 ∧ R i 0 < 256 := fun i hi => by
    have := hf0 i hi 0 (by decide)
    exact wf_u8 this
  replace hfit := Lib.hid hfit
  clear hf0
  by_cases hlen : 60 < L
  · have hd : decide ((60 : Int) < (L : Int)) = true := decide_eq_true (by omega)
    clear hlen
    go_enter Try.func8, Try.ntmps8
    go_wp2_with fail
    refine (alive_any _).mono ?_; rintro e wd ⟨rfl, hg⟩
    go_wp2_with fail
    refine (alive_any _).mono ?_; rintro e we ⟨rfl, hg2⟩
    go_wp2_with fail
    go_ret
    exact ⟨rfl, grown_trans hg hg2⟩
  · have hL : L ≤ 60 := by omega
    have hd : decide ((60 : Int) < (L : Int)) = false := decide_eq_false (by omega)
    clear hlen
    obtain ⟨m1, m2⟩ := wf_u8 wm
    clear wm
    obtain ⟨N, hN, hN1, hN2⟩ : ∃ N : Nat, (1 + m % 64) = (N : Int) ∧ 1 ≤ N ∧ N ≤ 64 := ⟨(m % 64).toNat + 1, by omega, by omega, by omega⟩
    replace hN := Lib.hid hN
    have hK0 := Lib.hid (fun wr (h : w.grownBy wr none) => hs0.kept h)
    clear hs0
    go_enter Try.func8, Try.ntmps8
    go_wp2_with fail
    refine (alive_any _).mono ?_; rintro e wd ⟨rfl, hg⟩
    have hwd := hg.size
    go_wp2_with fail
    refine (of_ok m m1 m2 N hN.out _).mono ?_; rintro e wa ⟨rfl, hP, hga, hsz⟩
    have hgw := grown_trans hg hga
    go_wp2_with fail
    refine (of_ok m m1 m2 N hN.out _).mono ?_; rintro e wb ⟨rfl, hQ, hgb, hszb⟩
    have hgw := grown_trans hgw hgb
    have hP := hP.keep hgb
    rw [hsz] at hQ
    obtain ⟨B, hB⟩ : ∃ B, wd.heap.size = B := ⟨_, rfl⟩
    have hBw : w.heap.size ≤ B := by omega
    rw [hB] at hP hQ ⊢
    rw [hsz, hB]
    have hwb : wb.heap.size = B + 2 := by omega
    clear hB hsz hszb hg hga hgb
    have hrep : Hid ((List.replicate N (0 : Int)).length = N) := List.length_replicate
    go_wp2_with fail
    have how := owners_ok _ hQ
    rw [hrep.out] at how
    replace how := Lib.hid how
    refine how.out.mono ?_; rintro e wc ⟨AF, kF, rfl, hkF, hF, gF⟩
    have hgw := grown_trans hgw gF
    have hP := hP.keep gF
    have hQ := hQ.keep gF
    rw [hwb] at hF
    go_wp2_with fail
    go_loopw [8] (fun i wr => ∃ (k : Nat) (os : List Int), k ≤ L ∧ i = .int .i64 k ∧ Hid (os.length = N) ∧ Pl wr B os ∧ Pl wr (B + 1) (List.replicate N 0) ∧ Mine wr (B + 2) 22 .u32 (.slice AF N kF) (List.replicate N 0) ∧ w.grownBy wr none) (fun i _ => L - (intOf i).toNat)
    case atStart => exact ⟨0, _, Nat.zero_le _, rfl, List.length_replicate, hP, hQ, hF, hgw⟩
    case round =>
      obtain ⟨k, os, hk, rfl, hol, hP, hQ, hF, hg⟩ := hrel
      by_cases hlt : k < L
      · obtain ⟨b, o, rfl, hb, hcs⟩ := (hK0.out _ hg).at hlt
        have hc0 := hcs 0 (by decide)
        have hc1 := hcs 1 (by decide)
        have hc2 := hcs 2 (by decide)
        obtain ⟨r1, r2⟩ := hfit.out k hlt
        generalize R k 0 = r at *
        generalize R k 1 = v at *
        generalize R k 2 = z at *
        obtain ⟨r, rfl⟩ := Int.eq_ofNat_of_zero_le r1
        have hr := four r
        clear r1 hcs
        simp only [List.length_cons, List.length_nil, Nat.reduceAdd, Nat.add_zero, List.getD_cons_zero, List.getD_cons_succ] at hc0 hc1 hc2
        have hgA := World.grownBy_alloc wr (.cells #[.int .u8 (r : Int), .int .u32 v, .int .i64 z] 41) none
        have hX := Arr.new wr #[.int .u8 (r : Int), .int .u32 v, .int .i64 z] 41 3 (act3 r v z) rfl (fun i hi => by
          rcases (by omega : i = 0 ∨ i = 1 ∨ i = 2) with rfl | rfl | rfl <;> rfl)
        have hBr := hP.arr.lt
        go_wp2_with fail
        refine (owners_n N hol.out _ (hP.keep hgA)).mono ?_; rintro e w2 ⟨A2, k2, rfl, hk2, hM2, g2⟩
        have hgA2 := grown_trans hgA g2
        have hP3 := hP.keep hgA2
        have hQ3 := hQ.keep hgA2
        have hF3 := hF.keep hgA2
        have hg3 := grown_trans hg hgA2
        have hX3 := hX.kept g2 (by simp)
        have hs3 := hM2.sl
        have hBs : B < (wr.alloc (.cells #[.int .u8 (r : Int), .int .u32 v, .int .i64 z] 41)).heap.size := by rw [World.size_alloc]; omega
        replace hBs := Lib.hid hBs
        generalize wr.heap.size = X at *
        clear hc0 hc1 hc2 hP hQ hF hg hX hM2 g2 hgA hgA2
        have hc0 : w2.cell? ⟨X, 0, none⟩ = some (.int .u8 r) := hX3.cell (i := 0) (by decide)
        rcases hr with d0 | ⟨d0, d1⟩ | ⟨d0, d1, d2⟩ | ⟨d0, d1, d2⟩
        · have hc1 : w2.cell? ⟨X, 1, none⟩ = some (.int .u32 v) := hX3.cell (i := 1) (by decide)
          go_wp2_with fail
          refine (alloc_every v _ hP3).mono ?_; rintro e w4 ⟨j, f, os', rfl, hP4, hol', hkeep, g4⟩
          replace hkeep := Lib.hid hkeep
          have hQ4 := hQ3.kept g4 (by simp)
          have hF4 := hF3.keepB g4 (by omega)
          have hg4 := grown_step hg3 g4 hBw
          have hol4 : Hid (os'.length = N) := hol'.trans hol.out
          replace hol' := Lib.hid hol'
          clear hP3 hQ3 hF3 hg3 hc0 hc1

          by_cases hf : f = 0
          · have hfb : (f != 0) = false := by rw [bne_eq_false_iff_eq]; exact hf
            clear hf
            go_wp2_with fail
            go_roundw
            case rel => exact ⟨k + 1, os', by omega, by go_num, hol4, hP4, hQ4, hF4, hg4⟩
            case measure => simp [intOf]; omega
          · have hfb : (f != 0) = true := by rw [bne_iff_ne]; exact hf
            obtain rfl := hkeep.out hf
            clear hf
            have hs4 := hs3.kept g4 (by rintro b hb; cases hb; left; exact hBs.out)
            go_wp2_with fail
            refine (owners_n N hol.out _ hP4).mono ?_; rintro e w5 ⟨A5, k5, rfl, hk5, hM5, g5⟩
            have hP5 := hP4.keep g5
            have hQ5 := hQ4.keep g5
            have hF5 := hF4.keep g5
            have hg5 := grown_trans hg4 g5
            have hs5 := hs4.kept g5 (by simp)
            go_wp2_with fail
            refine (same_ok _ _ _ _ _ _ _ _ N _ hol.out hN2 hk5 hk2 _ hM5.sl hs5).mono ?_; rintro e w6 ⟨rfl, n6, rfl⟩
            have hP6 := hP5.drewN n6
            have hQ6 := hQ5.drewN n6
            have hF6 := hF5.drewN n6
            have hg6 := grown_drewN hg5 n6
            go_wp2_with fail
            go_roundw
            case rel => exact ⟨k + 1, _, by omega, by go_num, hol, hP6, hQ6, hF6, hg6⟩
            case measure => simp [intOf]; omega
        · have hc1 : w2.cell? ⟨X, 1, none⟩ = some (.int .u32 v) := hX3.cell (i := 1) (by decide)
          go_wp2_with fail
          refine (alloc_every v _ hP3).mono ?_; rintro e w4 ⟨j, f, os', rfl, hP4, hol', hkeep, g4⟩
          replace hkeep := Lib.hid hkeep
          have hQ4 := hQ3.kept g4 (by simp)
          have hF4 := hF3.keepB g4 (by omega)
          have hg4 := grown_step hg3 g4 hBw
          have hol4 : Hid (os'.length = N) := hol'.trans hol.out
          replace hol' := Lib.hid hol'
          clear hP3 hQ3 hF3 hg3 hc0 hc1

          by_cases hf : f = 0
          · have hfb : (f != 0) = false := by rw [bne_eq_false_iff_eq]; exact hf
            clear hf
            go_wp2_with fail
            go_roundw
            case rel => exact ⟨k + 1, os', by omega, by go_num, hol4, hP4, hQ4, hF4, hg4⟩
            case measure => simp [intOf]; omega
          · have hfb : (f != 0) = true := by rw [bne_iff_ne]; exact hf
            obtain rfl := hkeep.out hf
            clear hf
            have hs4 := hs3.kept g4 (by rintro b hb; cases hb; left; exact hBs.out)
            go_wp2_with fail
            refine (owners_n N hol.out _ hP4).mono ?_; rintro e w5 ⟨A5, k5, rfl, hk5, hM5, g5⟩
            have hP5 := hP4.keep g5
            have hQ5 := hQ4.keep g5
            have hF5 := hF4.keep g5
            have hg5 := grown_trans hg4 g5
            have hs5 := hs4.kept g5 (by simp)
            go_wp2_with fail
            refine (same_ok _ _ _ _ _ _ _ _ N _ hol.out hN2 hk5 hk2 _ hM5.sl hs5).mono ?_; rintro e w6 ⟨rfl, n6, rfl⟩
            have hP6 := hP5.drewN n6
            have hQ6 := hQ5.drewN n6
            have hF6 := hF5.drewN n6
            have hg6 := grown_drewN hg5 n6
            go_wp2_with fail
            go_roundw
            case rel => exact ⟨k + 1, _, by omega, by go_num, hol, hP6, hQ6, hF6, hg6⟩
            case measure => simp [intOf]; omega
        · have hc1 : w2.cell? ⟨X, 1, none⟩ = some (.int .u32 v) := hX3.cell (i := 1) (by decide)
          have hc2 : w2.cell? ⟨X, 2, none⟩ = some (.int .i64 z) := hX3.cell (i := 2) (by decide)
          go_wp2_with fail
          refine (free_every v z _ hP3).mono ?_; rintro e w4 ⟨f, os', rfl, hP4, hol', hkeep, g4⟩
          replace hkeep := Lib.hid hkeep
          have hQ4 := hQ3.kept g4 (by simp)
          have hF4 := hF3.keepB g4 (by omega)
          have hg4 := grown_step hg3 g4 hBw
          have hol4 : Hid (os'.length = N) := hol'.trans hol.out
          replace hol' := Lib.hid hol'
          clear hP3 hQ3 hF3 hg3 hc0 hc1 hc2

          by_cases hf : f = 0
          · have hfb : (f != 0) = false := by rw [bne_eq_false_iff_eq]; exact hf
            clear hf
            go_wp2_with fail
            go_roundw
            case rel => exact ⟨k + 1, os', by omega, by go_num, hol4, hP4, hQ4, hF4, hg4⟩
            case measure => simp [intOf]; omega
          · have hfb : (f != 0) = true := by rw [bne_iff_ne]; exact hf
            obtain rfl := hkeep.out hf
            clear hf
            have hs4 := hs3.kept g4 (by rintro b hb; cases hb; left; exact hBs.out)
            go_wp2_with fail
            refine (owners_n N hol.out _ hP4).mono ?_; rintro e w5 ⟨A5, k5, rfl, hk5, hM5, g5⟩
            have hP5 := hP4.keep g5
            have hQ5 := hQ4.keep g5
            have hF5 := hF4.keep g5
            have hg5 := grown_trans hg4 g5
            have hs5 := hs4.kept g5 (by simp)
            go_wp2_with fail
            refine (same_ok _ _ _ _ _ _ _ _ N _ hol.out hN2 hk5 hk2 _ hM5.sl hs5).mono ?_; rintro e w6 ⟨rfl, n6, rfl⟩
            have hP6 := hP5.drewN n6
            have hQ6 := hQ5.drewN n6
            have hF6 := hF5.drewN n6
            have hg6 := grown_drewN hg5 n6
            go_wp2_with fail
            go_roundw
            case rel => exact ⟨k + 1, _, by omega, by go_num, hol, hP6, hQ6, hF6, hg6⟩
            case measure => simp [intOf]; omega
        · have hc1 : w2.cell? ⟨X, 1, none⟩ = some (.int .u32 v) := hX3.cell (i := 1) (by decide)
          go_wp2_with fail
          refine (all_every v _ hP3).mono ?_; rintro e w4 ⟨f, os', rfl, hP4, hol', g4⟩
          have hQ4 := hQ3.kept g4 (by simp)
          have hF4 := hF3.keepB g4 (by omega)
          have hg4 := grown_step hg3 g4 hBw
          have hol4 : Hid (os'.length = N) := hol'.trans hol.out
          replace hol' := Lib.hid hol'
          clear hP3 hQ3 hF3 hg3 hc0 hc1
          go_wp2_with fail
          go_roundw
          case rel => exact ⟨k + 1, os', by omega, by go_num, hol4, hP4, hQ4, hF4, hg4⟩
          case measure => simp [intOf]; omega
      · have hNe : ((N : Int) == 1 + m % 64) = true := by rw [beq_iff_eq]; exact hN.out.symm
        go_wp2_with fail
        refine (owners_n N hrep.out _ hQ).mono ?_; rintro e w1 ⟨A1, k1, rfl, hk1, hM1, g1⟩
        have hQ1 := hQ.keep g1
        have hg1 := grown_trans hg g1
        have hF1 := (hF.keep g1).sl
        go_wp2_with fail
        refine (same_ok _ _ _ _ _ _ _ _ N _ hrep.out hN2 hk1 hkF _ hM1.sl hF1).mono ?_; rintro e w2 ⟨rfl, n2, rfl⟩
        have hlf := left_ok _ (hQ1.drewN n2)
        rw [List.count_replicate_self] at hlf
        replace hlf := Lib.hid hlf
        go_wp2_with fail
        refine hlf.out.mono ?_; rintro e w3 ⟨rfl, n3, rfl⟩
        go_wp2_with fail
        go_ret
        exact ⟨rfl, grown_drewN hg1 (n2 + n3)⟩
end Go.Proofs.Ythdcogndmpeepaa
