/- The laws of ready: what they share. -/
import Derived.Test.YtdbddfbdhgohbaaGreatDoorRdy4
import Derived.Test.YtdbddfbdhgohbaaGreatDoorSameI
namespace Go.Proofs.YtdbddfbdhgohbaaGreatDoor
open Go.RowKit Go.Shelf Tk Tk.Lad Tk.Rdy
set_option linter.unusedVariables false
set_option linter.unusedSimpArgs false
theorem same_n (A A' : Option Addr) (c c' lo hi lo' hi' N : Nat) (os : List Int) (hN : os.length = N) (h64 : N ≤ 2000) (hc : N ≤ c) (hc' : N ≤ c') (w : World) (hs : SlA w lo hi .i64 A os) (hs' : SlA w lo' hi' .i64 A' os) :
    Calls Tryz.prog 14 #[.slice A N c, .slice A' N c'] w fun e w' => e = .returned (.bool true) ∧ ∃ n, w.drewN n = w' := by
  subst hN
  refine (sameInts_any A A' c c' lo hi lo' hi' os os w hc hc' (by omega) (by omega) hs hs').mono ?_
  rw [decide_eq_true rfl]
  rintro e w' h; exact h
/-- Behind a step on the queue alone. -/
theorem q_step {a b c : World} {Q : Nat} {Bs Ms : Nat → Nat} (h : a.grownBy b none) (g : Fr (OwnQ Q Bs Ms) b c) (hB : ∀ k, OwnQ Q Bs Ms k → a.heap.size ≤ k) : a.grownBy c none :=
  ((Fr.of_grown h (by simp)).trans g).grown (fun k hk hs => by have := hB k hs; omega)
/-- A queue, and what is known of it. -/
def Rok (w : World) (Q : Nat) (Bs Ms : Nat → Nat) : Prop := ∃ ls rk has, Ok ls rk has ∧ Rq w Q Bs Ms ls rk has
theorem Rok.keep {w w' : World} {Q : Nat} {Bs Ms : Nat → Nat} (h : Rok w Q Bs Ms) (g : w.grownBy w' none) : Rok w' Q Bs Ms := by
  obtain ⟨ls, rk, has, ho, hq⟩ := h; exact ⟨ls, rk, has, ho, hq.keep g⟩
def Every (w : World) (Q : Nat) (Bs Ms : Nat → Nat) (e : Ending) (w' : World) : Prop := ∃ z, e = .returned (.int .i64 z) ∧ Rok w' Q Bs Ms ∧ Fr (OwnQ Q Bs Ms) w w'
section
variable {w w' : World} {Q : Nat} {Bs Ms : Nat → Nat} {ls : Nat → List Int} {rk : Nat → Nat} {has : Nat}
theorem put_every (h : Rok w Q Bs Ms) (x r : Int) : Calls Tryz.prog 18 #[.pointer (some ⟨Q, 0, none⟩), .int .i64 x, .int .i64 r] w (Every w Q Bs Ms) := by
  obtain ⟨ls, rk, has, ho, hq⟩ := h
  by_cases hm : mayR rk x r = 0
  · obtain ⟨u, s, rfl, rfl, hu, hs, hk⟩ := mayR_zero hm
    exact (putq_in hq ho hu hs hk).mono fun e w' ⟨he, h1, h2⟩ => ⟨_, he, ⟨_, _, _, ho.come hs hu hk (List.perm_append_comm), h1⟩, h2⟩
  · exact (putq_no hq x r _ rfl hm).mono fun e w' ⟨he, h1⟩ => by subst h1; exact ⟨_, he, ⟨_, _, _, ho, hq⟩, Fr.refl _ _⟩
theorem push_every (h : Rok w Q Bs Ms) (x r : Int) : Calls Tryz.prog 22 #[.pointer (some ⟨Q, 0, none⟩), .int .i64 x, .int .i64 r] w (Every w Q Bs Ms) := by
  obtain ⟨ls, rk, has, ho, hq⟩ := h
  by_cases hm : mayR rk x r = 0
  · obtain ⟨u, s, rfl, rfl, hu, hs, hk⟩ := mayR_zero hm
    exact (pushq_in hq ho hu hs hk).mono fun e w' ⟨he, h1, h2⟩ => ⟨_, he, ⟨_, _, _, ho.come hs hu hk (List.Perm.refl _), h1⟩, h2⟩
  · exact (pushq_no hq x r _ rfl hm).mono fun e w' ⟨he, h1⟩ => by subst h1; exact ⟨_, he, ⟨_, _, _, ho, hq⟩, Fr.refl _ _⟩
theorem erase_perm {l : List Int} {j : Nat} {x : Int} (hj : j < l.length) (hg : gd l j = x) : (x :: l.eraseIdx j).Perm l := by
  have := perm_eraseIdx l j hj
  rw [gd_lt hj] at hg
  rwa [hg] at this
theorem remove_every (h : Rok w Q Bs Ms) (x : Int) : Calls Tryz.prog 20 #[.pointer (some ⟨Q, 0, none⟩), .int .i64 x] w (Every w Q Bs Ms) := by
  obtain ⟨ls, rk, has, ho, hq⟩ := h
  by_cases hex : ∃ u : Nat, x = u ∧ u < 256 ∧ rk u ≠ 0
  · obtain ⟨u, rfl, hu, hk⟩ := hex
    obtain ⟨r, hr⟩ : ∃ r, rk u = r + 1 := ⟨rk u - 1, by omega⟩
    have hr32 : r < 32 := by have := (ho.to u hu hk).1; omega
    exact (removeq_in hq ho hu hr32 hr).mono fun e w' ⟨he, ⟨j, hj, hg, h1⟩, h2⟩ => ⟨_, he, ⟨_, _, _, ho.go hr32 hu hr (erase_perm hj hg), h1⟩, h2⟩
  · exact (removeq_no hq x fun u hu hl => Classical.byContradiction fun hk => hex ⟨u, hu, hl, hk⟩).mono fun e w' ⟨he, h1⟩ => by subst h1; exact ⟨_, he, ⟨_, _, _, ho, hq⟩, Fr.refl _ _⟩
theorem turn_every (h : Rok w Q Bs Ms) (r : Int) : Calls Tryz.prog 19 #[.pointer (some ⟨Q, 0, none⟩), .int .i64 r] w (Every w Q Bs Ms) := by
  obtain ⟨ls, rk, has, ho, hq⟩ := h
  by_cases hr : 0 ≤ r ∧ r ≤ 31
  · obtain ⟨s, rfl⟩ := Int.eq_ofNat_of_zero_le hr.1
    have hs : s < 32 := by omega
    cases hl : ls s with
    | nil => exact (turnq_empty hq hs hl).mono fun e w' ⟨he, h1⟩ => by subst h1; exact ⟨_, he, ⟨_, _, _, ho, hq⟩, Fr.refl _ _⟩
    | cons v ms => exact (turnq_in hq hs hl).mono fun e w' ⟨he, h1, h2⟩ => ⟨_, he, ⟨_, _, _, ho.turn hs (by rw [hl]; exact List.perm_append_comm), h1⟩, h2⟩
  · exact (turnq_no hq r hr).mono fun e w' ⟨he, h1⟩ => by subst h1; exact ⟨_, he, ⟨_, _, _, ho, hq⟩, Fr.refl _ _⟩
end
theorem five (r : Nat) : ((r : Int) % 5 == 2) = true ∨ (((r : Int) % 5 == 2) = false ∧ ((r : Int) % 5 == 3) = true) ∨ (((r : Int) % 5 == 2) = false ∧ ((r : Int) % 5 == 3) = false ∧ ((r : Int) % 5 == 4) = true) ∨
    (((r : Int) % 5 == 2) = false ∧ ((r : Int) % 5 == 3) = false ∧ ((r : Int) % 5 == 4) = false) := by
  simp only [beq_iff_eq, beq_eq_false_iff_ne]; omega
def act3 (k x r : Int) (i : Nat) : Value := if i = 0 then .int .u8 k else if i = 1 then .int .i64 x else .int .i64 r
set_option maxRecDepth 100000 in
set_option maxHeartbeats 2000000 in
theorem does_any {w : World} {Q : Nat} {Bs Ms : Nat → Nat} (h : Rok w Q Bs Ms) (k x r : Int) (hk : 0 ≤ k ∧ k < 256) :
    Calls Tryz.prog 7 #[.pointer (some ⟨Q, 0, none⟩), .agg #[.int .u8 k, .int .i64 x, .int .i64 r]] w (Every w Q Bs Ms) := by
  obtain ⟨k1, k2⟩ := hk
  obtain ⟨n, rfl⟩ := Int.eq_ofNat_of_zero_le k1
  have hr := five n
  have hgA := World.grownBy_alloc w (.cells #[.int .u8 (n : Int), .int .i64 x, .int .i64 r] 39) none
  have h1 := h.keep hgA
  have gA := Lib.hid (Fr.of_grown (S := OwnQ Q Bs Ms) hgA (by simp))
  have hp := Lib.hid (put_every h1 x r)
  have hu := Lib.hid (push_every h1 x r)
  have hm := Lib.hid (remove_every h1 x)
  have ht := Lib.hid (turn_every h1 r)
  clear h h1 hgA k1
  rcases hr with d0 | ⟨d0, d1⟩ | ⟨d0, d1, d2⟩ | ⟨d0, d1, d2⟩
  · go_enter Tryz.func7, Tryz.ntmps7
    go_wp2_with fail
    refine hu.out.mono ?_; rintro e w3 ⟨z, rfl, hR, g⟩
    go_wp2_with fail
    go_ret
    exact ⟨z, rfl, hR, gA.out.trans g⟩
  · go_enter Tryz.func7, Tryz.ntmps7
    go_wp2_with fail
    refine hm.out.mono ?_; rintro e w3 ⟨z, rfl, hR, g⟩
    go_wp2_with fail
    go_ret
    exact ⟨z, rfl, hR, gA.out.trans g⟩
  · go_enter Tryz.func7, Tryz.ntmps7
    go_wp2_with fail
    refine ht.out.mono ?_; rintro e w3 ⟨z, rfl, hR, g⟩
    go_wp2_with fail
    go_ret
    exact ⟨z, rfl, hR, gA.out.trans g⟩
  · go_enter Tryz.func7, Tryz.ntmps7
    go_wp2_with fail
    refine hp.out.mono ?_; rintro e w3 ⟨z, rfl, hR, g⟩
    go_wp2_with fail
    go_ret
    exact ⟨z, rfl, hR, gA.out.trans g⟩
theorem thereq_nil (w : World) : Calls Tryz.prog 27 #[.pointer none] w fun e w' => e = .returned (.bool false) ∧ w = w' := by
  go_enter Tryz.func27, Tryz.ntmps27
  go_wp2
  go_ret
  exact ⟨rfl, rfl⟩
theorem mayq_nil (x r : Int) (w : World) : Calls Tryz.prog 57 #[.pointer none, .int .i64 x, .int .i64 r] w fun e w' => e = .returned (.int .i64 2) ∧ w = w' := by
  go_enter Tryz.func57, Tryz.ntmps57
  go_wp2_with fail
  refine (thereq_nil _).mono ?_; rintro e w' ⟨rfl, rfl⟩
  go_wp2_with fail
  go_ret
  exact ⟨rfl, rfl⟩
theorem putq_nil (x r : Int) (w : World) : Calls Tryz.prog 18 #[.pointer none, .int .i64 x, .int .i64 r] w fun e w' => e = .returned (.int .i64 2) ∧ w = w' := by
  go_enter Tryz.func18, Tryz.ntmps18
  go_wp2_with fail
  refine (mayq_nil _ _ _).mono ?_; rintro e w' ⟨rfl, rfl⟩
  go_wp2_with fail
  go_ret
  exact ⟨rfl, rfl⟩
theorem firstq_nil (w : World) : Calls Tryz.prog 9 #[.pointer none] w fun e w' => e = .returned (.tuple #[.int .i64 0, .bool false]) ∧ w.grownBy w' none := by
  have hg2 := Lib.hid (grown_alloc (grown_alloc (grown_refl w none) (.cells #[.int .i64 0] 3)) (.cells #[.bool false] 4))
  have b0 := (Boxed.new w 3 (.int .i64 0)).alloc (.cells #[.bool false] 4)
  have b1 := Boxed.new (w.alloc (.cells #[.int .i64 0] 3)) 4 (.bool false)
  simp only [World.size_alloc] at b1
  have e0 := Lib.hid b0.cell
  have e1 := Lib.hid b1.cell
  clear b0 b1
  go_enter Tryz.func9, Tryz.ntmps9
  go_wp2_with fail
  refine (thereq_nil _).mono ?_; rintro e w' ⟨rfl, rfl⟩
  go_wp2_with fail
  (try simp only [Exit.inBlock, Exit.then]); refine bodyPost_ret (v := .tuple #[.int .i64 0, .bool false]) (by have := e0.out; have := e1.out; simp [results, Tryz.results9, go_sem, *]) rfl ?_
  exact ⟨rfl, hg2.out⟩
theorem made2 (w : World) (a b : Int) : SlA (w.alloc (.cells #[.int .i64 a, .int .i64 b] 3)) 0 (w.heap.size + 1) .i64 (some ⟨w.heap.size, 0, none⟩) [a, b] :=
  (SlA.made w .i64 [a, b] _ 3 rfl).wide (Nat.zero_le _) (Nat.le_refl _) (by simp)
set_option maxRecDepth 100000 in
set_option maxHeartbeats 4000000 in
theorem lives_any (w : World) : Calls Tryz.prog 4 #[] w fun e w' => e = .returned (.bool true) ∧ w.grownBy w' none := by
  go_enter Tryz.func4, Tryz.ntmps4
  go_wp2_with fail
  refine (newq_ok _).mono ?_; rintro e w0 ⟨Q, Bs, Ms, rfl, h0, hB, g0⟩
  have o0 := Ok.start
  replace hB := Lib.hid hB
  go_wp2_with fail
  refine (putq_in h0 o0 (u := 5) (r := 2) (by decide) (by decide) rfl).mono ?_; rintro e w1 ⟨rfl, h1, f1⟩
  have o1 := o0.come (r := 2) (u := 5) (by decide) (by decide) rfl (l' := [] ++ [(5 : Int)]) List.perm_append_comm
  have g1 := q_step g0 f1 hB.out
  have s1 : setN 0 ((2 : Nat) : Int) = 4 := by decide
  rw [s1] at h1 o1
  clear h0 g0 f1
  go_wp2_with fail
  refine (putq_in h1 o1 (u := 6) (r := 2) (by decide) (by decide) rfl).mono ?_; rintro e w2 ⟨rfl, h2, f2⟩
  have o2 := o1.come (r := 2) (u := 6) (by decide) (by decide) rfl (l' := _ ++ [(6 : Int)]) List.perm_append_comm
  have g2 := q_step g1 f2 hB.out
  have s2 : setN 4 ((2 : Nat) : Int) = 4 := by decide
  rw [s2] at h2 o2
  clear h1 g1 f2
  go_wp2_with fail
  refine (putq_in h2 o2 (u := 7) (r := 1) (by decide) (by decide) rfl).mono ?_; rintro e w3 ⟨rfl, h3, f3⟩
  have o3 := o2.come (r := 1) (u := 7) (by decide) (by decide) rfl (l' := _ ++ [(7 : Int)]) List.perm_append_comm
  have g3 := q_step g2 f3 hB.out
  have s3 : setN 4 ((1 : Nat) : Int) = 6 := by decide
  rw [s3] at h3 o3
  clear h2 g2 f3 o1 o2 o0
  replace o3 := Lib.hid o3
  go_wp2_with fail
  refine (firstq_in h3 (by decide) (by decide) (v := 5) (ms := [6]) rfl).mono ?_; rintro e w4 ⟨rfl, g4⟩
  have h4 := h3.keep g4
  have g4' := grown_trans g3 g4
  clear h3 g3 g4
  go_wp2_with fail
  refine (turnq_in h4 (r := 2) (by decide) (v := 5) (ms := [6]) rfl).mono ?_; rintro e w5 ⟨rfl, h5, f5⟩
  have g5 := q_step g4' f5 hB.out
  clear h4 g4' f5
  go_wp2_with fail
  refine (firstq_in h5 (by decide) (by decide) (v := 6) (ms := [5]) rfl).mono ?_; rintro e w6 ⟨rfl, g6⟩
  have h6 := h5.keep g6
  have g6' := grown_trans g5 g6
  clear h5 g5 g6
  go_wp2_with fail
  refine (firstq_nil _).mono ?_; rintro e w7 ⟨rfl, g7⟩
  have h7 := h6.keep g7
  have g7' := grown_trans g6' g7
  clear h6 g6' g7
  go_wp2_with fail
  refine (listq_in h7 (r := 2) (by decide) 2 rfl).mono ?_; rintro e w8 ⟨A, k, rfl, hk, hM, g8⟩
  have h8 := h7.keep g8
  have g8' := grown_trans g7' g8
  have hs : SlA w8 w7.heap.size w8.heap.size .i64 A [6, 5] := hM.sl
  clear h7 g7' g8 hM
  go_wp2_with fail
  refine (same_n A _ k 2 _ _ _ _ 2 [6, 5] rfl (by decide) hk (by decide) _ (hs.alloc _) (made2 _ _ _)).mono ?_; rintro e w9 ⟨rfl, n9, rfl⟩
  have g9 := grown_drewN (World.grownBy_alloc w8 (.cells #[.int .i64 6, .int .i64 5] 3) none) n9
  have h9 := h8.keep g9
  have g9' := grown_trans g8' g9
  obtain ⟨W9, hW9⟩ : ∃ W9, (w8.alloc (.cells #[.int .i64 6, .int .i64 5] 3)).drewN n9 = W9 := ⟨_, rfl⟩
  rw [hW9] at h9 g9' ⊢
  clear hW9 g9 h8 g8' hs
  go_wp2_with fail
  refine (putq_no h9 5 1 7 (by decide) (by decide)).mono ?_; rintro e w' ⟨rfl, rfl⟩
  go_wp2_with fail
  refine (removeq_no h9 9 (fun u hu _ => by obtain rfl : u = 9 := by omega
                                            rfl)).mono ?_; rintro e w' ⟨rfl, rfl⟩
  go_wp2_with fail
  refine (turnq_empty h9 (r := 3) (by decide) rfl).mono ?_; rintro e w' ⟨rfl, rfl⟩
  go_wp2_with fail
  refine (putq_nil 1 1 _).mono ?_; rintro e w' ⟨rfl, rfl⟩
  go_wp2_with fail
  go_ret
  exact ⟨rfl, g9'⟩
end Go.Proofs.YtdbddfbdhgohbaaGreatDoor
