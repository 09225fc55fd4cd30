/- The laws of waits: what they share. -/
import Derived.Test.YtiakbgdeanllnaaDoorWait6
namespace Go.Proofs.YtiakbgdeanllnaaDoor
open Go.RowKit Go.Shelf Tk
set_option linter.unusedVariables false
set_option linter.unusedSimpArgs false

theorem same_n (A A' : Option Addr) (c c' lo hi lo' hi' N : Nat) (os : List Int) (hN : os.length = N) (h64 : N ≤ 2000) (hc : N ≤ c) (hc' : N ≤ c') (w : World) (hs : SlA w lo hi .i64 A os) (hs' : SlA w lo' hi' .i64 A' os) :
    Calls Tryd.prog 16 #[.slice A N c, .slice A' N c'] w fun e w' => e = .returned (.bool true) ∧ ∃ n, w.drewN n = w' := by
  subst hN
  refine (sameInts_any A A' c c' lo hi lo' hi' os os w hc hc' (by omega) (by omega) hs hs').mono ?_
  rw [decide_eq_true rfl]
  rintro e w' h; exact h
/-- Behind a step on the queue alone. -/
theorem own_step {hd : Nd} {l : List Nd} {a b c : World} (h : a.grownBy b none) (g : Fr (Own hd l) b c) (hB : ∀ k ∈ Blks (hd :: l), a.heap.size ≤ k) : a.grownBy c none :=
  ((fr_grown h).trans g).grown (fun k hk hs => by have := hB k hs; omega)
theorem list_n {w : World} {Q : Nat} {hd : Nd} {l : List Nd} (n : Nat) (xs : List Int) (hn : l.length = n) (hx : l.map Nd.x = xs) (h1 : n ≤ 1000) (h : Wq w Q hd l) : Calls Tryd.prog 13 #[.pointer (some ⟨Q, 0, none⟩)] w fun e w' => ∃ A, e = .returned (.slice A n n) ∧ SlA w' w.heap.size w'.heap.size .i64 A xs ∧ w.grownBy w' none := by
  subst hn hx; exact list_ok h1 h
theorem far_sl {w w' : World} {hd : Nd} {l : List Nd} {lo hi : Nat} {A : Option Addr} {xs : List Int} (hl : ∀ k ∈ Blks (hd :: l), k < lo ∨ hi ≤ k) (hs : SlA w lo hi .i64 A xs) (g : Fr (Own hd l) w w') : SlA w' lo hi .i64 A xs :=
  hs.fr g (fun b h1 h2 hb => by rcases hl b hb with h | h <;> omega)
set_option maxRecDepth 100000 in
set_option maxHeartbeats 8000000 in
theorem lives_any (w : World) : Calls Tryd.prog 4 #[] w fun e w' => e = .returned (.bool true) ∧ w.grownBy w' none := by
  go_enter Tryd.func4, Tryd.ntmps4
  go_wp2_with fail
  refine (new_ok _).mono ?_; rintro e w0 ⟨hd, Q, rfl, hW0, g0, hh, hQ⟩
  go_wp2_with fail
  refine (put_ok 1 5 (by decide) (by decide) (fun m hm => by simp at hm) hW0).mono ?_; rintro e w1 ⟨rfl, a, b, m1, hab, hW1, -, -, hm1, f1⟩
  have hw1 : w.heap.size ≤ m1 := Nat.le_trans g0.size hm1
  obtain ⟨rfl, rfl⟩ : a = [] ∧ b = [] := by simpa using hab.symm
  replace hW1 : Wq w1 Q hd [⟨m1, 1, 5⟩] := hW1
  have hB1 : ∀ k ∈ Blks [hd, ⟨m1, 1, 5⟩], w.heap.size ≤ k := fun k hk => by simp [Blks] at hk; rcases hk with rfl | rfl <;> omega
  have g1 := own_step g0 f1 (fun k hk => by simp [Blks] at hk; rcases hk with rfl; omega)
  have hz1 := g1.size
  replace hB1 := Lib.hid hB1
  clear hab hW0 g0 f1 hm1
  go_wp2_with fail
  refine (put_ok 2 7 (by decide) (by decide) (fun m hm => by simp at hm; subst hm; simp) hW1).mono ?_; rintro e w2 ⟨rfl, a, b, m2, hab, hW2, hq, -, hm2, f2⟩
  have ha : a = [] := by
    cases a with
    | nil => rfl
    | cons y a =>
      have hy := hq y (by simp)
      have : y = ⟨m1, 1, 5⟩ := by simp at hab; exact hab.1.symm
      subst this; simp at hy
  subst ha
  obtain rfl : [(⟨m1, 1, 5⟩ : Nd)] = b := by simpa using hab
  replace hW2 : Wq w2 Q hd [⟨m2, 2, 7⟩, ⟨m1, 1, 5⟩] := hW2
  have hw2 : w.heap.size ≤ m2 := Nat.le_trans hz1 hm2
  have g2 := own_step g1 f2 hB1.out
  have hz2 := g2.size
  clear hq hW1 g1 f2 hm2
  go_wp2_with fail
  refine (put_ok 3 5 (by decide) (by decide) (fun m hm => by simp at hm; rcases hm with rfl | rfl <;> simp) hW2).mono ?_; rintro e w3 ⟨rfl, a, b, m3, hab, hW3, -, hq, hm3, f3⟩
  have hb : b = [] := by
    cases b with
    | nil => rfl
    | cons y b =>
      have hy := hq y b rfl
      have hm : y ∈ [(⟨m2, 2, 7⟩ : Nd), ⟨m1, 1, 5⟩] := by rw [hab]; simp
      simp at hm
      rcases hm with rfl | rfl <;> simp at hy
  subst hb
  obtain rfl : [(⟨m2, 2, 7⟩ : Nd), ⟨m1, 1, 5⟩] = a := by simpa using hab
  replace hW3 : Wq w3 Q hd [⟨m2, 2, 7⟩, ⟨m1, 1, 5⟩, ⟨m3, 3, 5⟩] := hW3
  have hw3 : w.heap.size ≤ m3 := Nat.le_trans hz2 hm3
  have g3 := own_step g2 f3 (fun k hk => by simp [Blks] at hk; rcases hk with rfl | rfl | rfl <;> omega)
  clear hab hq hW2 g2 f3 hm3
  go_wp2_with fail
  have hbl := Lnk.lt hW3.lk
  refine (list_n 3 [2, 1, 3] rfl rfl (by decide) hW3).mono ?_; rintro e w4 ⟨A4, rfl, hs4, g4⟩
  have hW4 := hW3.keep g4
  have g4' := grown_trans g3 g4
  have hz4 := g4'.size
  have hbl' : ∀ k ∈ Blks (hd :: [(⟨m2, 2, 7⟩ : Nd), ⟨m1, 1, 5⟩, ⟨m3, 3, 5⟩]), k < w3.heap.size ∨ w4.heap.size ≤ k := fun k hk => .inl (hbl k hk)
  replace hbl' := Lib.hid hbl'
  replace hbl := Lib.hid hbl
  clear hW3 g3
  go_wp2_with fail
  refine (change_move 1 4 (by decide) (by decide) ⟨⟨m1, 1, 5⟩, by simp, rfl⟩ (by simp) (fun y hy e => by simp at hy; rcases hy with rfl | rfl | rfl <;> first | (simp at e; done) | simp) hW4).mono ?_; rintro e w5 ⟨rfl, a0, y, b0, a, b, m5, hab, hyx, hab2, hW5, -, hq, hm5, f5⟩
  have hs5 := far_sl hbl'.out hs4 f5
  have hab0 : a0 = [(⟨m2, 2, 7⟩ : Nd)] ∧ b0 = [(⟨m3, 3, 5⟩ : Nd)] := by
    rcases a0 with _ | ⟨z1, _ | ⟨z2, _ | ⟨z3, a0⟩⟩⟩
    · simp at hab; obtain ⟨rfl, -⟩ := hab; simp at hyx
    · simp at hab; obtain ⟨rfl, rfl, rfl⟩ := hab; exact ⟨rfl, rfl⟩
    · simp at hab; obtain ⟨rfl, rfl, rfl, -⟩ := hab; simp at hyx
    · simp at hab
  obtain ⟨rfl, rfl⟩ := hab0
  have hb : b = [] := by
    cases b with
    | nil => rfl
    | cons z b =>
      have hy := hq z b rfl
      have hm : z ∈ [(⟨m2, 2, 7⟩ : Nd)] ++ [⟨m3, 3, 5⟩] := by rw [hab2]; simp
      simp at hm
      rcases hm with rfl | rfl <;> simp at hy
  subst hb
  obtain rfl : [(⟨m2, 2, 7⟩ : Nd), ⟨m3, 3, 5⟩] = a := by simpa using hab2
  replace hW5 : Wq w5 Q hd [⟨m2, 2, 7⟩, ⟨m3, 3, 5⟩, ⟨m5, 1, 4⟩] := hW5
  have g5 := own_step g4' f5 (fun k hk => by simp [Blks] at hk; rcases hk with rfl | rfl | rfl | rfl <;> omega)
  clear hab hab2 hyx hq hW4 g4' g4 f5 hs4 hm5 hbl hbl'
  go_wp2_with fail
  refine (list_n 3 [2, 3, 1] rfl rfl (by decide) hW5).mono ?_; rintro e w6 ⟨A6, rfl, hs6, g6⟩
  have hW6 := hW5.keep g6
  have hs5' := hs5.kept g6 (by simp)
  have g6' := grown_trans g5 g6
  clear hW5 g5 hs5 g6
  go_wp2_with fail
  refine (change_same 3 5 (by decide) ⟨⟨m3, 3, 5⟩, by simp, rfl⟩ (fun y hy e => by simp at hy; rcases hy with rfl | rfl | rfl <;> first | rfl | (simp at e; done)) hW6).mono ?_; rintro e w7 ⟨rfl, g7⟩
  have hW7 := hW6.keep g7
  have hs7 := hs5'.kept g7 (by simp)
  have hs7b := hs6.kept g7 (by simp)
  have g7' := grown_trans g6' g7
  clear hW6 g6' hs6 hs5' g7
  have hsn := SlA.made w7 .i64 [2, 1, 3] #[.int .i64 2, .int .i64 1, .int .i64 3] 3 rfl
  have hgA := World.grownBy_alloc w7 (.cells #[.int .i64 2, .int .i64 1, .int .i64 3] 3) none
  have hs8 := hs7.kept hgA (by simp)
  have hs8b := hs7b.kept hgA (by simp)
  have hW8 := hW7.keep hgA
  have g8 := grown_trans g7' hgA
  go_wp2_with fail
  refine (same_n _ _ _ _ _ _ _ _ 3 [2, 1, 3] rfl (by decide) (by decide) (by decide) _ hs8 hsn).mono ?_; rintro e w9 ⟨rfl, n9, rfl⟩
  have hW9 := hW8.drewN n9
  have hs9 := hs8b.drewN n9
  have g9 := grown_drewN g8 n9
  obtain ⟨W9, hW9e⟩ : ∃ W9, (w7.alloc (.cells #[.int .i64 2, .int .i64 1, .int .i64 3] 3)).drewN n9 = W9 := ⟨_, rfl⟩
  rw [hW9e] at hW9 hs9 g9 ⊢
  clear hW9e hW7 hs7 hs7b g7' hsn hgA hs8 hs8b hW8 g8
  have hsn := SlA.made W9 .i64 [2, 3, 1] #[.int .i64 2, .int .i64 3, .int .i64 1] 3 rfl
  have hgA := World.grownBy_alloc W9 (.cells #[.int .i64 2, .int .i64 3, .int .i64 1] 3) none
  have hs10 := hs9.kept hgA (by simp)
  have hW10 := hW9.keep hgA
  have g10 := grown_trans g9 hgA
  go_wp2_with fail
  refine (same_n _ _ _ _ _ _ _ _ 3 [2, 3, 1] rfl (by decide) (by decide) (by decide) _ hs10 hsn).mono ?_; rintro e w11 ⟨rfl, n11, rfl⟩
  have hW11 := hW10.drewN n11
  have hs11 := hs10.drewN n11
  have g11 := grown_drewN g10 n11
  obtain ⟨W11, hW11e⟩ : ∃ W11, (W9.alloc (.cells #[.int .i64 2, .int .i64 3, .int .i64 1] 3)).drewN n11 = W11 := ⟨_, rfl⟩
  rw [hW11e] at hW11 hs11 g11 ⊢
  clear hW11e hW9 hs9 g9 hsn hgA hs10 hW10 g10
  go_wp2_with fail
  refine (list_n 3 [2, 3, 1] rfl rfl (by decide) hW11).mono ?_; rintro e w12 ⟨A12, rfl, hs12, g12⟩
  have hW12 := hW11.keep g12
  have hs11' := hs11.kept g12 (by simp)
  have g12' := grown_trans g11 g12
  go_wp2_with fail
  refine (same_n _ _ _ _ _ _ _ _ 3 [2, 3, 1] rfl (by decide) (by decide) (by decide) _ hs12 hs11').mono ?_; rintro e w13 ⟨rfl, n13, rfl⟩
  go_wp2_with fail
  refine (put_there 2 1 (by decide) (by decide) ⟨⟨m2, 2, 7⟩, by simp, rfl⟩ (hW12.drewN n13)).mono ?_; rintro e w14 ⟨rfl, g14⟩
  have g14' := grown_trans (grown_drewN g12' n13) g14
  go_wp2_with fail
  refine (put_nil 1 1 _).mono ?_; rintro e w15 ⟨rfl, g15⟩
  go_wp2_with fail
  refine (list_nil _).mono ?_; rintro e w' ⟨rfl, rfl⟩
  go_wp2_with fail
  go_ret
  exact ⟨rfl, grown_trans g14' g15⟩
end Go.Proofs.YtiakbgdeanllnaaDoor
