/- The laws of heirs: what they share. -/
import Derived.Test.YtigghlnnhdoabaaDoorHeiR
import Derived.Test.YtigghlnnhdoabaaDoorHeiC2
namespace Go.Proofs.YtigghlnnhdoabaaDoor
open Go.RowKit Go.Shelf Tk Tk.Hei
set_option linter.unusedVariables false
set_option linter.unusedSimpArgs false

theorem three {P : Nat → Prop} (h0 : P 0) (h1 : P 1) (h2 : P 2) : ∀ i, i < 3 → P i := fun i hi => by
  match i, hi with
  | 0, _ => exact h0
  | 1, _ => exact h1
  | 2, _ => exact h2
theorem lv1 : Okr [1, 5, 3] [-1, 0, 1] := ⟨rfl, by decide, three (by decide) (by decide) (by decide), three (by decide) (by decide) (by decide)⟩
theorem lv2 : Okr [1, 9, 3] [2, 0, -1] := ⟨rfl, by decide, three (by decide) (by decide) (by decide), three (by decide) (by decide) (by decide)⟩
theorem lw1 : Least [1, 5, 3] [-1, 0, 1] [5, 5, 3] := by
  refine ⟨⟨rfl, three (by decide) (by decide) (by decide), fun s hs hc => ?_, three ⟨1, by decide, by decide, 1, rfl⟩ ⟨1, by decide, by decide, 0, rfl⟩ ⟨2, by decide, by decide, 0, rfl⟩⟩, three (by decide) (by decide) (by decide)⟩
  have a1 : (5 : Int) ≤ s 1 := hs 1 (by decide)
  have a2 : (3 : Int) ≤ s 2 := hs 2 (by decide)
  have c1 : s 1 ≤ s 0 := hc 1 (by decide) (by decide)
  exact three (show (5 : Int) ≤ s 0 by omega) (show (5 : Int) ≤ s 1 by omega) (show (3 : Int) ≤ s 2 by omega)
theorem lw2 : Least [1, 9, 3] [2, 0, -1] [9, 9, 9] := by
  refine ⟨⟨rfl, three (by decide) (by decide) (by decide), fun s hs hc => ?_, three ⟨1, by decide, by decide, 1, rfl⟩ ⟨1, by decide, by decide, 0, rfl⟩ ⟨1, by decide, by decide, 2, rfl⟩⟩, three (by decide) (by decide) (by decide)⟩
  have a1 : (9 : Int) ≤ s 1 := hs 1 (by decide)
  have c0 : s 0 ≤ s 2 := hc 0 (by decide) (by decide)
  have c1 : s 1 ≤ s 0 := hc 1 (by decide) (by decide)
  exact three (show (9 : Int) ≤ s 0 by omega) (show (9 : Int) ≤ s 1 by omega) (show (9 : Int) ≤ s 2 by omega)
theorem lw3 : Circ [2, 0, -1] 2 1 := ⟨three (by decide) (by decide) (by decide), by decide, by decide, by decide, by decide, 2, rfl⟩
theorem lw4 : ¬ Circ [2, 0, -1] 1 2 := fun h => by
  have h1 := (circ_reach h.1 (Nat.le_refl _) h.2.2.2.2.1 h.2.1).2 h.2.2.2.2.2
  revert h1; decide
theorem same_n (A A' : Option Addr) (c c' lo hi lo' hi' N : Nat) (os : List Int) (hN : os.length = N) (h64 : N ≤ 2000) (hc : N ≤ c) (hc' : N ≤ c') (w : World) (hs : SlA w lo hi .i64 A os) (hs' : SlA w lo' hi' .i64 A' os) :
    Calls Tryd.prog 8 #[.slice A N c, .slice A' N c'] w fun e w' => e = .returned (.bool true) ∧ ∃ n, w.drewN n = w' := by
  subst hN
  refine (sameInts_any A A' c c' lo hi lo' hi' os os w hc hc' (by omega) (by omega) hs hs').mono ?_
  rw [decide_eq_true rfl]
  rintro e w' h; exact h
theorem ranks_is (A0 A1 : Option Addr) (c0 c1 lo hi lo' hi' : Nat) (bs ws out : List Int) (ho : Okr bs ws) (hl : Least bs ws out) (w : World) (hs0 : SlA w lo hi .i64 A0 bs) (hs1 : SlA w lo' hi' .i64 A1 ws) :
    Calls Tryd.prog 6 #[.slice A0 bs.length c0, .slice A1 ws.length c1] w fun e w' => ∃ A, e = .returned (.tuple #[.slice A out.length out.length, .int .i64 0]) ∧ SlA w' 0 w'.heap.size .i64 A out ∧ w.grownBy w' none :=
  (ranks_any A0 A1 c0 c1 lo hi lo' hi' bs ws w hs0 hs1).mono fun e w' h => by
    rcases h with ⟨h, -⟩ | ⟨-, out', A, he, hl', hC, hg⟩
    · exact absurd ho h
    · obtain rfl := hl'.uniq hl
      exact ⟨A, he, hC.sl, hg⟩
theorem circle_is (A : Option Addr) (c lo hi : Nat) (ws : List Int) (hm : ws.length ≤ 1000000) (who whom : Int) (q : Bool) (hq : q = true ↔ Circ ws who whom) (w : World) (hs : SlA w lo hi .i64 A ws) :
    Calls Tryd.prog 12 #[.slice A ws.length c, .int .i64 who, .int .i64 whom] w fun e w' => e = .returned (.bool q) ∧ w.grownBy w' none :=
  (circle_ok A c lo hi ws hm who whom w hs).mono fun e w' ⟨q', he, hq', hg⟩ => by
    have : q' = q := by rw [Bool.eq_iff_iff, hq', hq]
    subst this
    exact ⟨he, hg⟩
theorem ranks_n (A0 A1 : Option Addr) (c0 c1 lo hi lo' hi' N : Nat) (bs ws out : List Int) (h1 : bs.length = N) (h2 : ws.length = N) (h3 : out.length = N) (ho : Okr bs ws) (hl : Least bs ws out) (w : World) (hs0 : SlA w lo hi .i64 A0 bs) (hs1 : SlA w lo' hi' .i64 A1 ws) :
    Calls Tryd.prog 6 #[.slice A0 N c0, .slice A1 N c1] w fun e w' => ∃ A, e = .returned (.tuple #[.slice A N N, .int .i64 0]) ∧ SlA w' 0 w'.heap.size .i64 A out ∧ w.grownBy w' none := by
  have := ranks_is A0 A1 c0 c1 lo hi lo' hi' bs ws out ho hl w hs0 hs1
  rwa [h1, h2, h3] at this
theorem circle_n (A : Option Addr) (c lo hi N : Nat) (ws : List Int) (hN : ws.length = N) (hm : N ≤ 1000000) (who whom : Int) (q : Bool) (hq : q = true ↔ Circ ws who whom) (w : World) (hs : SlA w lo hi .i64 A ws) :
    Calls Tryd.prog 12 #[.slice A N c, .int .i64 who, .int .i64 whom] w fun e w' => e = .returned (.bool q) ∧ w.grownBy w' none := by
  have := circle_is A c lo hi ws (by omega) who whom q hq w hs
  rwa [hN] at this
theorem made4 (w : World) (H : Nat) (a b c : Int) (hH : w.heap.size = H) : SlA (w.alloc (.cells #[.int .i64 a, .int .i64 b, .int .i64 c] 3)) 0 (H + 1) .i64 (some ⟨H, 0, none⟩) [a, b, c] := by
  subst hH; exact (SlA.made w .i64 [a, b, c] _ 3 rfl).wide (Nat.zero_le _) (Nat.le_refl _) (by simp)
theorem made3 (w : World) (a b c : Int) : SlA (w.alloc (.cells #[.int .i64 a, .int .i64 b, .int .i64 c] 3)) 0 (w.heap.size + 1) .i64 (some ⟨w.heap.size, 0, none⟩) [a, b, c] :=
  (SlA.made w .i64 [a, b, c] _ 3 rfl).wide (Nat.zero_le _) (Nat.le_refl _) (by simp)
set_option maxRecDepth 100000 in
set_option maxHeartbeats 4000000 in
theorem lives_any (w : World) : Calls Tryd.prog 4 #[] w fun e w' => e = .returned (.bool true) ∧ w.grownBy w' none := by
  go_enter Tryd.func4, Tryd.ntmps4
  go_wp2_with fail
  refine (ranks_n _ _ 3 3 _ _ _ _ 3 [1, 5, 3] [-1, 0, 1] [5, 5, 3] rfl rfl rfl lv1 lw1 _ ((made3 _ _ _ _).alloc _) (made4 _ _ _ _ _ (by simp))).mono ?_; rintro e w1 ⟨A1, rfl, hs1, g1⟩
  have g1' : w.grownBy w1 none := grown_trans (grown_alloc (grown_alloc (grown_refl _ _) _) _) g1
  clear g1
  go_wp2_with fail
  refine (ranks_n _ _ 3 3 _ _ _ _ 3 [1, 9, 3] [2, 0, -1] [9, 9, 9] rfl rfl rfl lv2 lw2 _ ((made3 _ _ _ _).alloc _) (made4 _ _ _ _ _ (by simp))).mono ?_; rintro e w2 ⟨A2, rfl, hs2, g2⟩
  have g2' : w1.grownBy w2 none := grown_trans (grown_alloc (grown_alloc (grown_refl _ _) _) _) g2
  have hs1' := hs1.kept g2' (by simp)
  have g3 := grown_trans g1' g2'
  clear g2 hs1 g1' g2'
  go_wp2_with fail
  refine (same_n A1 _ 3 3 _ _ _ _ 3 [5, 5, 3] rfl (by decide) (by decide) (by decide) _ (hs1'.alloc _) (made3 _ _ _ _)).mono ?_; rintro e w' ⟨rfl, n3, rfl⟩
  have g4 := grown_drewN (grown_alloc g3 (.cells #[.int .i64 5, .int .i64 5, .int .i64 3] 3)) n3
  have hs2' := hs2.kept (grown_drewN (grown_alloc (grown_refl w2 none) (.cells #[.int .i64 5, .int .i64 5, .int .i64 3] 3)) n3) (by simp)
  obtain ⟨W4, hW4⟩ : ∃ W4, (w2.alloc (.cells #[.int .i64 5, .int .i64 5, .int .i64 3] 3)).drewN n3 = W4 := ⟨_, rfl⟩
  rw [hW4] at g4 hs2' ⊢
  clear hW4 g3 hs2 hs1'
  go_wp2_with fail
  refine (same_n A2 _ 3 3 _ _ _ _ 3 [9, 9, 9] rfl (by decide) (by decide) (by decide) _ (hs2'.alloc _) (made3 _ _ _ _)).mono ?_; rintro e w' ⟨rfl, n5, rfl⟩
  have g5 := grown_drewN (grown_alloc g4 (.cells #[.int .i64 9, .int .i64 9, .int .i64 9] 3)) n5
  obtain ⟨W5, hW5⟩ : ∃ W5, (W4.alloc (.cells #[.int .i64 9, .int .i64 9, .int .i64 9] 3)).drewN n5 = W5 := ⟨_, rfl⟩
  rw [hW5] at g5 ⊢
  clear hW5 g4 hs2'
  go_wp2_with fail
  refine (circle_n _ 3 _ _ 3 [2, 0, -1] rfl (by decide) 2 1 true ⟨fun _ => lw3, fun _ => rfl⟩ _ (made3 _ _ _ _)).mono ?_; rintro e w6 ⟨rfl, g6⟩
  have g6' := grown_trans (grown_alloc g5 _) g6
  clear g5 g6
  go_wp2_with fail
  refine (circle_n _ 3 _ _ 3 [2, 0, -1] rfl (by decide) 1 2 false ⟨fun h => Bool.noConfusion h, fun h => absurd h lw4⟩ _ (made3 _ _ _ _)).mono ?_; rintro e w7 ⟨rfl, g7⟩
  have g7' := grown_trans (grown_alloc g6' _) g7
  go_wp2_with fail
  go_ret
  exact ⟨rfl, g7'⟩
end Go.Proofs.YtigghlnnhdoabaaDoor
