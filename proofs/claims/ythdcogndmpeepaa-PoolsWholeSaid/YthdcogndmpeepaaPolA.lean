/- The laws of pools: what they share. -/
import Derived.Test.YthdcogndmpeepaaPool3
import Derived.Test.YthdcogndmpeepaaSameW
namespace Go.Proofs.Ythdcogndmpeepaa
open Go.RowKit Go.Shelf Tk
set_option linter.unusedVariables false
set_option linter.unusedSimpArgs false

theorem alloc_at {B : Nat} {os : List Int} (v : Int) (hv : v ≠ 0) (j : Nat) (hj : j < os.length) (h0 : gd os j = 0) (hmin : ∀ i, i < j → gd os i ≠ 0) (w : World) (h : Pl w B os) :
    Calls Try.prog 10 #[.pointer (some ⟨B, 0, none⟩), .int .u32 v] w fun e w' => e = .returned (.tuple #[.int .i64 j, .int .i64 0]) ∧ Pl w' B (os.set j v) ∧ w.grownBy w' (some B) := by
  refine (alloc_any v hv w h).mono ?_
  rintro e w' (⟨j', rfl, hj', h0', hmin', hP, hg⟩ | ⟨rfl, hf, -⟩)
  · have : j = j' := by
      rcases Nat.lt_trichotomy j j' with h1 | h1 | h1
      · exact absurd h0 (hmin' j h1)
      · exact h1
      · exact absurd h0' (hmin j' h1)
    subst this
    exact ⟨rfl, hP, hg⟩
  · exact absurd h0 (hf j hj)
theorem alloc_full {B : Nat} {os : List Int} (v : Int) (hv : v ≠ 0) (hf : ∀ i, i < os.length → gd os i ≠ 0) (w : World) (h : Pl w B os) :
    Calls Try.prog 10 #[.pointer (some ⟨B, 0, none⟩), .int .u32 v] w fun e w' => e = .returned (.tuple #[.int .i64 0, .int .i64 11]) ∧ ∃ n, w.drewN n = w' := by
  refine (alloc_any v hv w h).mono ?_
  rintro e w' (⟨j', rfl, hj', h0', hmin', hP, hg⟩ | ⟨rfl, hf, hn⟩)
  · exact absurd h0' (hf j' hj')
  · exact ⟨rfl, hn⟩
theorem free_is {B : Nat} {os : List Int} (v b : Int) (hv : v ≠ 0) (j : Nat) (hb : b = j) (hj : j < os.length) (hw : gd os j = v) (w : World) (h : Pl w B os) :
    Calls Try.prog 11 #[.pointer (some ⟨B, 0, none⟩), .int .u32 v, .int .i64 b] w fun e w' => e = .returned (.int .i64 0) ∧ Pl w' B (os.set j 0) ∧ w.grownBy w' (some B) := by
  subst hb; exact free_ok v hv j hj hw w h
theorem free_other {B : Nat} {os : List Int} (v b : Int) (hv : v ≠ 0) (j : Nat) (hb : b = j) (hj : j < os.length) (hw : gd os j ≠ v) (w : World) (h : Pl w B os) :
    Calls Try.prog 11 #[.pointer (some ⟨B, 0, none⟩), .int .u32 v, .int .i64 b] w fun e w' => e = .returned (.int .i64 13) ∧ w = w' := by
  subst hb; exact free_owner v hv j hj hw w h
theorem map_none {v : Int} {os : List Int} (h : ∀ x ∈ os, x ≠ v) : os.map (fun x => if x = v then 0 else x) = os := by
  rw [List.map_congr_left (g := id) (fun x hx => by simp [h x hx]), List.map_id]
theorem count_none {v : Int} {os : List Int} (h : ∀ x ∈ os, x ≠ v) : os.count v = 0 := by
  rw [List.count_eq_zero]; exact fun hm => h v hm rfl
theorem all_none {B : Nat} {os : List Int} (v : Int) (hv : v ≠ 0) (hno : ∀ x ∈ os, x ≠ v) (w : World) (h : Pl w B os) :
    Calls Try.prog 12 #[.pointer (some ⟨B, 0, none⟩), .int .u32 v] w fun e w' => e = .returned (.int .i64 0) ∧ Pl w' B os ∧ w.grownBy w' (some B) := by
  have := all_blocks v hv w h
  rw [count_none hno, map_none hno] at this
  exact this
set_option maxRecDepth 100000 in
set_option maxHeartbeats 4000000 in
theorem of_ok (m : Int) (m1 : 0 ≤ m) (m2 : m < 256) (N : Nat) (hN : 1 + m % 64 = N) (w : World) :
    Calls Try.prog 16 #[.int .u8 m] w fun e w' => e = .returned (.pointer (some ⟨w.heap.size, 0, none⟩)) ∧ Pl w' w.heap.size (List.replicate N 0) ∧ w.grownBy w' none ∧ w'.heap.size = w.heap.size + 1 := by
  have h1 : 1 ≤ N := by omega
  have h2 : N ≤ 64 := by omega
  replace hN := Lib.hid hN
  go_enter Try.func16, Try.ntmps16
  go_wp2_with fail
  refine (new_ok N _ 1 hN.out h1 h2 (by decide) (by decide) _).mono ?_; rintro e wa ⟨rfl, hP, hg, hs⟩
  go_wp2_with fail
  go_ret
  exact ⟨rfl, hP, hg, hs⟩
set_option maxRecDepth 100000 in
set_option maxHeartbeats 8000000 in
theorem alive_any (w : World) : Calls Try.prog 15 #[] w fun e w' => e = .returned (.bool true) ∧ w.grownBy w' none := by
  go_enter Try.func15, Try.ntmps15
  go_wp2_with fail
  refine (new_ok 3 3 8 rfl (by decide) (by decide) (by decide) (by decide) _).mono ?_; rintro e wa ⟨rfl, hP, hg, hs⟩
  go_wp2_with fail
  refine (new_bad 65 1 (by decide) _).mono ?_; rintro e w' ⟨rfl, rfl⟩
  go_wp2_with fail
  refine (new_bad 1 257 (by decide) _).mono ?_; rintro e w' ⟨rfl, rfl⟩
  obtain ⟨B, hB⟩ : ∃ B, w.heap.size = B := ⟨_, rfl⟩
  have hBw : w.heap.size ≤ B := by omega
  rw [hB] at hP ⊢
  clear hB hs
  replace hP : Pl wa B [0, 0, 0] := hP
  go_wp2_with fail
  refine (alloc_at 5 (by decide) 0 (by decide) (by decide) (by omega) _ hP).mono ?_; rintro e w1 ⟨rfl, hP1, g1⟩
  have hg1 := grown_step hg g1 hBw
  replace hP1 : Pl w1 B [5, 0, 0] := hP1
  go_wp2_with fail
  refine (alloc_at 6 (by decide) 1 (by decide) (by decide) (by decide) _ hP1).mono ?_; rintro e w2 ⟨rfl, hP2, g2⟩
  have hg2 := grown_step hg1 g2 hBw
  replace hP2 : Pl w2 B [5, 6, 0] := hP2
  go_wp2_with fail
  refine (alloc_at 5 (by decide) 2 (by decide) (by decide) (by decide) _ hP2).mono ?_; rintro e w3 ⟨rfl, hP3, g3⟩
  have hg3 := grown_step hg2 g3 hBw
  replace hP3 : Pl w3 B [5, 6, 5] := hP3
  clear hP hP1 hP2 g1 g2 g3 hg hg1 hg2
  go_wp2_with fail
  refine (alloc_full 7 (by decide) (by decide) _ hP3).mono ?_; rintro e w4 ⟨rfl, n, rfl⟩
  have hP4 := hP3.drewN n
  have hg4 := grown_drewN hg3 n
  obtain ⟨W, hW⟩ : ∃ W, w3.drewN n = W := ⟨_, rfl⟩
  rw [hW] at hP4 hg4 ⊢
  clear hW hP3 hg3
  go_wp2_with fail
  refine (owners_ok _ hP4).mono ?_; rintro e w5 ⟨A, c, rfl, hc, hM, g5⟩
  have hP5 := hP4.keep g5
  have hg5 := grown_trans hg4 g5
  have hs := SlA.made w5 .u32 [5, 6, 5] #[.int .u32 5, .int .u32 6, .int .u32 5] 22 rfl
  have hgA := World.grownBy_alloc w5 (.cells #[.int .u32 5, .int .u32 6, .int .u32 5] 22) none
  have hs0 := hM.sl.kept hgA (by simp)
  have hP6 := hP5.keep hgA
  have hg6 := grown_trans hg5 hgA
  go_wp2_with fail
  refine (sameWords_any _ _ _ _ _ _ _ _ [5, 6, 5] [5, 6, 5] _ hc (by decide) (by decide) (by decide) hs0 hs).mono ?_; rw [decide_eq_true rfl]; rintro e w7 ⟨rfl, n7, rfl⟩
  have hP7 := hP6.drewN n7
  have hg7 := grown_drewN hg6 n7
  obtain ⟨W7, hW⟩ : ∃ W7, (w5.alloc (.cells #[.int .u32 5, .int .u32 6, .int .u32 5] 22)).drewN n7 = W7 := ⟨_, rfl⟩
  rw [hW] at hP7 hg7 ⊢
  clear hW hP4 hg4 hP5 hg5 hP6 hg6 hs0 hs hM hgA
  go_wp2_with fail
  refine (free_other 6 0 (by decide) 0 rfl (by decide) (by decide) _ hP7).mono ?_; rintro e w' ⟨rfl, rfl⟩
  go_wp2_with fail
  refine (free_is 5 0 (by decide) 0 rfl (by decide) (by decide) _ hP7).mono ?_; rintro e w8 ⟨rfl, hP8, g8⟩
  have hg8 := grown_step hg7 g8 hBw
  replace hP8 : Pl w8 B [0, 6, 5] := hP8
  go_wp2_with fail
  refine (all_blocks 5 (by decide) _ hP8).mono ?_; rintro e w9 ⟨rfl, hP9, g9⟩
  have hg9 := grown_step hg8 g9 hBw
  replace hP9 : Pl w9 B [0, 6, 0] := hP9
  rw [show ([0, 6, 5] : List Int).count 5 = 1 from rfl]
  go_wp2_with fail
  refine (left_ok _ hP9).mono ?_; rintro e w10 ⟨rfl, n10, rfl⟩
  rw [show ([0, 6, 0] : List Int).count 0 = 2 from rfl]
  have hP10 := hP9.drewN n10
  have hg10 := grown_drewN hg9 n10
  go_wp2_with fail
  refine (free_arg 5 3 (by decide) _ hP10).mono ?_; rintro e w' ⟨rfl, rfl⟩
  go_wp2_with fail
  go_ret
  exact ⟨rfl, hg10⟩
end Go.Proofs.Ythdcogndmpeepaa
