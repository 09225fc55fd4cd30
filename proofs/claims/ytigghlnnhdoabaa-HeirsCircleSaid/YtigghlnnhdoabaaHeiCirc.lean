/- HeirsCircle. -/
import Derived.Test.YtigghlnnhdoabaaHeiA
import Derived.Test.YtigghlnnhdoabaaTwinI
namespace Go.Proofs.Ytigghlnnhdoabaa
open Go.RowKit Go.Shelf Tk Tk.Hei
set_option linter.unusedVariables false
set_option linter.unusedSimpArgs false

def CircPost (ws : List Int) (who whom : Int) (w : World) (e : Ending) (w' : World) : Prop := ∃ q, e = .returned (.bool q) ∧ (q = true ↔ Circ ws who whom) ∧ w = w'
set_option maxRecDepth 100000 in
set_option maxHeartbeats 4000000 in
theorem refCircle_any (A : Option Addr) (c lo hi N : Nat) (ws : List Int) (hN : ws.length = N) (hm : N ≤ 1000000) (who whom : Int) (w : World) (hs : SlA w lo hi .i64 A ws) :
    Calls Try.prog 9 #[.slice A N c, .int .i64 who, .int .i64 whom] w (CircPost ws who whom w) := by
  replace hN := Lib.hid hN
  go_enter Try.func9, Try.ntmps9
  go_wp2_with fail
  go_loopw [7] (fun i wr => ∃ k : Nat, k ≤ N ∧ i = .int .i64 k ∧ Hid (∀ j, j < k → -1 ≤ gd ws j ∧ gd ws j < N) ∧ wr = w) (fun i _ => N - (intOf i).toNat)
  case atStart => exact ⟨0, Nat.zero_le _, rfl, fun j hj => absurd hj (Nat.not_lt_zero _), rfl⟩
  case round =>
    obtain ⟨k, hk, rfl, hno, hww⟩ := hrel
    obtain rfl : w = wr := hww.symm
    by_cases hlt : k < N
    · obtain ⟨b, o, rfl, hc⟩ := hs.at (i := k) (by rw [hN.out]; exact hlt)
      have hkI : (k : Int) < (N : Int) := by omega
      by_cases hgood : -1 ≤ gd ws k ∧ gd ws k < N
      · have hno' : Hid (∀ j, j < k + 1 → -1 ≤ gd ws j ∧ gd ws j < N) := fun j hj => by
          by_cases e : j = k
          · subst e; exact hgood
          · exact hno.out j (by omega)
        obtain ⟨q3, q4⟩ := hgood
        generalize gd ws k = y at *
        have p3 : decide (y < -1) = false := decide_eq_false (by omega)
        have p4 : decide ((N : Int) ≤ y) = false := decide_eq_false (by omega)
        clear q3 q4 hno
        go_wp2_with fail
        go_roundw
        case rel => exact ⟨k + 1, by omega, by go_num, hno', by first | rfl | trivial⟩
        case measure => simp [intOf]; omega
      · have hbad : Hid (¬ Circ ws who whom) := fun h => hgood (by have := h.1 k (by rw [hN.out]; exact hlt); rw [hN.out] at this; exact this)
        generalize gd ws k = y at *
        have hcs : decide (y < -1) = true ∨ (decide (y < -1) = false ∧ decide ((N : Int) ≤ y) = true) := by
          simp only [decide_eq_true_eq, decide_eq_false_iff_not]; omega
        clear hgood hno
        rcases hcs with p3 | ⟨p3, p4⟩
        all_goals
          go_wp2_with fail
          go_ret
          exact ⟨false, rfl, ⟨fun h => Bool.noConfusion h, fun h => absurd h hbad.out⟩, rfl⟩
    · obtain rfl : N = k := by omega
      have hok : Hid (Okw ws) := fun i hi => by rw [hN.out]; exact hno.out i (by rw [← hN.out]; exact hi)
      clear hno
      by_cases hin : 0 ≤ who ∧ who < N ∧ 0 ≤ whom ∧ whom < N
      · obtain ⟨h1, h2, h3, h4⟩ := hin
        have p1 : decide (who < 0) = false := decide_eq_false (by omega)
        have p2 : decide ((N : Int) ≤ who) = false := decide_eq_false (by omega)
        have p3 : decide (whom < 0) = false := decide_eq_false (by omega)
        have p4 : decide ((N : Int) ≤ whom) = false := decide_eq_false (by omega)
        have hcirc : Hid (∀ q, (q = true ↔ circ ws (N + 1) whom who = true) → (q = true ↔ Circ ws who whom)) := fun q hq => by
          rw [hq, circ_reach hok.out (by rw [hN.out]; omega) (by rw [hN.out]; exact h4) h1]
          exact ⟨fun h => ⟨hok.out, h1, by rw [hN.out]; exact h2, h3, by rw [hN.out]; exact h4, h⟩, fun h => h.2.2.2.2.2⟩
        go_wp2_with fail
        go_loopw [8, 9] (fun a i wr => ∃ (k : Nat) (x : Int), k ≤ N + 1 ∧ i = .int .i64 k ∧ a = .int .i64 x ∧ -1 ≤ x ∧ x < N ∧ Hid (circ ws (N + 1) whom who = circ ws (N + 1 - k) x who) ∧ wr = w) (fun _ i _ => N + 1 - (intOf i).toNat)
        case atStart => exact ⟨0, whom, Nat.zero_le _, rfl, rfl, by omega, h4, rfl, rfl⟩
        case round =>
          obtain ⟨k, x, hk, rfl, rfl, hx1, hx2, hcr, hww⟩ := hrel
          obtain rfl : w = wr := hww.symm
          by_cases hgo : k < N + 1 ∧ 0 ≤ x
          · obtain ⟨hlt, hx0⟩ := hgo
            obtain ⟨p, rfl⟩ := Int.eq_ofNat_of_zero_le hx0
            have hpN : p < N := by omega
            obtain ⟨b, o, rfl, hc⟩ := hs.at (i := p) (by rw [hN.out]; exact hpN)
            obtain ⟨d, hd⟩ : ∃ d, N + 1 - k = d + 1 := ⟨N - k, by omega⟩
            have hst : circ ws (d + 1) (p : Int) who = if (p : Int) = who then true else circ ws d (gd ws p) who := by
              show (if (p : Int) < 0 then false else if (p : Int) = who then true else circ ws d (gd ws (p : Int).toNat) who) = _
              rw [if_neg (by omega), Int.toNat_natCast]
            have t1 : decide ((k : Int) ≤ (N : Int)) = true := decide_eq_true (by omega)
            have t1' : (k : Int) ≤ (N : Int) := by omega
            have hpI : (p : Int) < (N : Int) := by omega
            have hp0 : (0 : Int) ≤ (p : Int) := Int.natCast_nonneg _
            by_cases he : (p : Int) = who
            · have hfin : Hid (circ ws (N + 1) whom who = true) := by show _ = _; rw [hcr.out, hd, hst, if_pos he]
              have heb : ((p : Int) == who) = true := by rw [beq_iff_eq]; exact he
              replace hst := Lib.hid hst
              replace he := Lib.hid he
              replace hd := Lib.hid hd
              go_wp2_with fail
              go_ret
              exact ⟨true, rfl, hcirc.out true ⟨fun _ => hfin.out, fun _ => rfl⟩, rfl⟩
            · have hfin : Hid (circ ws (N + 1) whom who = circ ws (N + 1 - (k + 1)) (gd ws p) who) := by show _ = _; rw [hcr.out, hd, hst, if_neg he, show N + 1 - (k + 1) = d by omega]
              have heb : ((p : Int) == who) = false := by rw [beq_eq_false_iff_ne]; exact he
              have hb := hok.out p (by rw [hN.out]; exact hpN)
              rw [hN.out] at hb
              obtain ⟨hb1, hb2⟩ := hb
              generalize gd ws p = y at *
              replace hst := Lib.hid hst
              replace he := Lib.hid he
              replace hd := Lib.hid hd
              go_wp2_with fail
              go_roundw
              case rel => exact ⟨k + 1, y, by omega, by go_num, rfl, hb1, hb2, hfin, by first | rfl | trivial⟩
              case measure => simp [intOf]; omega
          · have hfin : Hid (circ ws (N + 1) whom who = false) := by
              show _ = _
              rw [hcr.out]
              by_cases hx0 : x < 0
              · cases N + 1 - k with
                | zero => rfl
                | succ d => unfold circ; rw [if_pos hx0]
              · have : N + 1 - k = 0 := by omega
                rw [this]; rfl
            have hcs : (decide ((k : Int) ≤ (N : Int)) = false ∧ ¬ (k : Int) ≤ (N : Int)) ∨ ((decide ((k : Int) ≤ (N : Int)) = true ∧ (k : Int) ≤ (N : Int)) ∧ x = -1) := by
              simp only [decide_eq_true_eq, decide_eq_false_iff_not]; omega
            clear hgo
            rcases hcs with ⟨t1, t1'⟩ | ⟨⟨t1, t1'⟩, rfl⟩
            all_goals
              go_wp2_with fail
              go_ret
              exact ⟨false, rfl, hcirc.out false ⟨fun h => Bool.noConfusion h, fun h => by rw [hfin.out] at h; cases h⟩, rfl⟩
      · have hbad : Hid (¬ Circ ws who whom) := fun h => hin ⟨h.2.1, by have := h.2.2.1; rwa [hN.out] at this, h.2.2.2.1, by have := h.2.2.2.2.1; rwa [hN.out] at this⟩
        have hcs : decide (who < 0) = true ∨ (decide (who < 0) = false ∧ decide ((N : Int) ≤ who) = true) ∨ (decide (who < 0) = false ∧ decide ((N : Int) ≤ who) = false ∧ decide (whom < 0) = true) ∨
            (decide (who < 0) = false ∧ decide ((N : Int) ≤ who) = false ∧ decide (whom < 0) = false ∧ decide ((N : Int) ≤ whom) = true) := by
          simp only [decide_eq_true_eq, decide_eq_false_iff_not]; omega
        clear hin
        rcases hcs with p1 | ⟨p1, p2⟩ | ⟨p1, p2, p3⟩ | ⟨p1, p2, p3, p4⟩
        all_goals
          go_wp2_with fail
          go_ret
          exact ⟨false, rfl, ⟨fun h => Bool.noConfusion h, fun h => absurd h hbad.out⟩, rfl⟩
set_option maxRecDepth 100000 in
set_option maxHeartbeats 4000000 in
theorem heirsCircle_walk (A0 : Option Addr) (c0 : Nat) (xs : List Int) (hl0 : xs.length ≤ c0) (who : Int) (w1 : (Lit.int .i64 who).wf = true) (whom : Int) (w2 : (Lit.int .i64 whom).wf = true) (w : World)
    (hs0 : SlA w 0 w.heap.size .i64 A0 xs) (hf0 : ∀ x ∈ xs, (Lit.int .i64 x).wf = true) (hb0 : xs.length * 8 ≤ 140737488351232) :
    Calls Try.prog 3 #[.slice A0 xs.length c0, .int .i64 who, .int .i64 whom] w fun e w' => e = .returned (.bool true) ∧ w.grownBy w' none := by
  clear hf0
  by_cases hlen : 1000 < xs.length
  · have hd : decide ((1000 : Int) < (xs.length : Int)) = true := decide_eq_true (by omega)
    clear hlen
    go_enter Try.func3, Try.ntmps3
    go_wp2_with fail
    refine (lives_any _).mono ?_; rintro e wd ⟨rfl, hg⟩
    go_wp2_with fail
    go_ret
    exact ⟨rfl, hg⟩
  · have hx : xs.length ≤ 1000 := by omega
    have hd : decide ((1000 : Int) < (xs.length : Int)) = false := decide_eq_false (by omega)
    clear hlen
    have htw := Lib.hid (twinInts_any A0 c0 0 w.heap.size xs w hl0 (by omega) hs0)
    have hK := Lib.hid (fun wr (h : w.grownBy wr none) => hs0.kept h (by simp))
    obtain ⟨N, hN⟩ : ∃ N, xs.length = N := ⟨_, rfl⟩
    rw [hN] at htw hx hd hl0 ⊢
    replace hN := Lib.hid hN
    clear hs0 hb0
    go_enter Try.func3, Try.ntmps3
    go_wp2_with fail
    refine htw.out.mono ?_; rintro e wt ⟨g, c', rfl, hc1, hc2, hM, hg⟩
    have hMt : Mine wt w.heap.size 3 .i64 (.slice (some ⟨g, 0, none⟩) (xs.length + 1) c') (xs ++ [77]) := by rw [hN.out]; exact hM
    have hsl := hMt.take.sl
    go_wp2_with fail
    have hci := circle_ok (some ⟨g, 0, none⟩) c' w.heap.size wt.heap.size xs (by rw [hN.out]; omega) who whom wt hsl
    rw [hN.out] at hci
    refine hci.mono ?_; rintro e w3 ⟨q, rfl, hq, g3⟩
    have hg3 := grown_trans hg g3
    have hM3 := hMt.keep g3
    replace hq := Lib.hid hq
    clear hsl hMt hM
    go_wp2_with fail
    refine (refCircle_any A0 c0 0 w.heap.size N xs hN.out (by omega) who whom w3 (hK.out _ hg3)).mono ?_; rintro e w' ⟨q', rfl, hq', rfl⟩
    have hqq : q' = q := by rw [Bool.eq_iff_iff, hq', hq.out]
    subst hqq
    replace hq' := Lib.hid hq'
    have hle := leftInts_any g c' c0 w.heap.size 0 w.heap.size A0 xs w3 (by rw [hN.out]; exact hc1) (by rw [hN.out]; exact hl0) (by rw [hN.out]; omega) hM3 (hK.out _ hg3)
    rw [hN.out] at hle
    have hqb : (q' == q') = true := by rw [beq_iff_eq]
    replace hle := Lib.hid hle
    go_wp2_with fail
    refine hle.out.mono ?_; rintro e w4 ⟨rfl, n4, rfl⟩
    go_wp2_with fail
    refine (lives_any _).mono ?_; rintro e w5 ⟨rfl, g5⟩
    go_wp2_with fail
    go_ret
    exact ⟨rfl, grown_trans (grown_drewN hg3 n4) g5⟩
end Go.Proofs.Ytigghlnnhdoabaa
