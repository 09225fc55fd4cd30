/- The book: all lists are looked at. -/
import Derived.Test.YtneamjaglgnmkaaGreatDoorBkW4
import Derived.BigQuiet
namespace Go.Proofs.YtneamjaglgnmkaaGreatDoor
open Go.RowKit Go.Shelf Tk
set_option linter.unusedVariables false
set_option linter.unusedSimpArgs false
namespace BkWord
variable {w w' : World} {K : Nat} {rv : Value} {q : Nat} {V U : Nat → Value} {N : Nat → Nat}
theorem rep_cell {w : World} {g c n : Nat} {x : Int} (h : Rw w 23 .u32 g c (List.replicate n x)) {i : Nat} (hi : i < n) : w.cell? ⟨g, i, none⟩ = some (.int .u32 x) := by
  have h2 := h.cell (i := i) (by rw [List.length_replicate]; exact hi)
  have : gd (List.replicate n x) i = x := by unfold gd; rw [List.getElem?_replicate, if_pos hi]; rfl
  rwa [this] at h2
theorem lg_rep {w : World} {v : Value} {n : Nat} {x : Int} (h : Lg w 23 .u32 v (List.replicate n x)) (h0 : 0 < n) : ∃ g c, v = .slice (some ⟨g, 0, none⟩) n c ∧ Rw w 23 .u32 g c (List.replicate n x) := by
  rcases h with ⟨-, h⟩ | ⟨g, c, hv, hR⟩
  · have := congrArg List.length h
    rw [List.length_replicate] at this
    exact absurd this (by simp; omega)
  · rw [List.length_replicate] at hv
    exact ⟨g, c, hv, hR⟩
set_option maxRecDepth 100000 in
set_option maxHeartbeats 4000000 in
theorem look_ok (h : RestG w K rv q V U N q) (hq : q ≤ 1000) (hN : ∀ i, i < q → N i ≤ 5000) :
    Calls Tryz.prog 45 #[.pointer (some ⟨K, 0, none⟩)] w fun e w' => e = .returned (.bool true) ∧ w.grownBy w' none := by
  replace hN := Lib.hid hN
  replace h := Lib.hid h
  go_enter Tryz.func45, Tryz.ntmps45
  go_wp2_with fail
  go_loopw [3] (fun i wr => ∃ p : Nat, p ≤ q ∧ i = .int .i64 p ∧ Hid (RestG wr K rv q V U N q) ∧ w.grownBy wr none) (fun i _ => q - (intOf i).toNat)
  case atStart => exact ⟨0, Nat.zero_le _, rfl, h.out, World.grownBy.refl _ _⟩
  case round =>
    obtain ⟨p, hp, rfl, hR, hgr⟩ := hrel
    clear h
    obtain ⟨A1, c1, hrv, hqc, hA1⟩ := hR.out.bk.form
    have hKc := hR.out.bk.cf
    rw [hrv] at hKc
    by_cases hlt : p < q
    · obtain ⟨g, rfl⟩ := hA1 (by omega)
      have hLp := hR.out.vs p hlt
      have hUp := hR.out.us p hlt
      obtain ⟨n, hn⟩ : ∃ n, N p = n := ⟨_, rfl⟩
      unfold full at hLp
      unfold fullL at hUp
      have hn5 : n ≤ 5000 := by rw [← hn]; exact hN.out p hlt
      rw [hn] at hLp hUp
      obtain ⟨A, c, hVp, hnc, -⟩ := hLp.sl
      rw [List.length_replicate] at hVp hnc
      obtain ⟨gu, cu, hUe, hUR⟩ := lg_rep hUp (by omega)
      have r0 := hR.out.bk.at hrv (m := p * 3) (by omega)
      have r1 := hR.out.bk.at hrv (m := p * 3 + 1) (by omega)
      have r2 := hR.out.bk.at hrv (m := p * 3 + 2) (by omega)
      rw [rc0, hVp] at r0
      rw [rc1, hUe] at r1
      have hpc : ((p + 1 : Nat) : Int) = (p : Int) + 1 := by push_cast; rfl
      rw [rc2, hpc] at r2
      have hpI : (p : Int) < (q : Int) := by omega
      have hp0 : (0 : Int) ≤ (p : Int) := Int.natCast_nonneg _
      have hpq : (p : Int) ≤ 1000 := by omega
      have hnI : (n : Int) ≤ 5000 := by omega
      have hn0 : (0 : Int) ≤ (n : Int) := Int.natCast_nonneg _
      have hcast : ((n + 40 : Nat) : Int) = (n : Int) + 40 := by push_cast; rfl
      have hAX := Arr.new wr #[.slice A n c, .slice (some ⟨gu, 0, none⟩) (n + 40) cu, .int .i64 ((p : Int) + 1)] 123 3 (hx (.slice A n c) (.slice (some ⟨gu, 0, none⟩) (n + 40) cu) ((p : Int) + 1)) rfl (fun i hi => by
        rcases (by omega : i = 0 ∨ i = 1 ∨ i = 2) with rfl | rfl | rfl <;> rfl)
      have hgX := World.grownBy_alloc wr (.cells #[.slice A n c, .slice (some ⟨gu, 0, none⟩) (n + 40) cu, .int .i64 ((p : Int) + 1)] 123) none
      have hR1 := Lib.hid (hR.out.keep hgX)
      have hg1 := grown_trans hgr hgX
      obtain ⟨X, hX⟩ : ∃ X, wr.heap.size = X := ⟨_, rfl⟩
      rw [hX] at hAX
      replace hVp := Lib.hid hVp
      replace hUe := Lib.hid hUe
      replace hrv := Lib.hid hrv
      replace hn := Lib.hid hn
      clear hR hA1 hLp hUp hUR hgX hpc hgr
      go_wp2_with fail
      clear hX r0 r1 r2 hKc
      obtain ⟨W1, hW1⟩ : ∃ W1, wr.alloc (.cells #[.slice A n c, .slice (some ⟨gu, 0, none⟩) (n + 40) cu, .int .i64 ((p : Int) + 1)] 123) = W1 := ⟨_, rfl⟩
      rw [hW1] at hAX hR1 hg1 ⊢
      clear hW1
      go_loopw [5] (fun z wr2 => ∃ k : Nat, k ≤ n + 40 ∧ z = .int .i64 k ∧ Hid (RestG wr2 K rv q V U N q) ∧ Arr wr2 X 3 (hx (.slice A n c) (.slice (some ⟨gu, 0, none⟩) (n + 40) cu) ((p : Int) + 1)) ∧ w.grownBy wr2 none) (fun z _ => n + 40 - (intOf z).toNat)
      case atStart => exact ⟨0, Nat.zero_le _, rfl, hR1.out, hAX, hg1⟩
      case round =>
        obtain ⟨k, hk, rfl, hRk, hAk, hgk⟩ := hrel
        clear hR1 hAX hg1
        have x0 : wr.cell? ⟨X, 0, none⟩ = some (.slice A n c) := hAk.cell (i := 0) (by decide)
        have x1 : wr.cell? ⟨X, 1, none⟩ = some (.slice (some ⟨gu, 0, none⟩) (n + 40) cu) := hAk.cell (i := 1) (by decide)
        have x2 : wr.cell? ⟨X, 2, none⟩ = some (.int .i64 ((p : Int) + 1)) := hAk.cell (i := 2) (by decide)
        have k0 : (0 : Int) ≤ (k : Int) := Int.natCast_nonneg _
        have hgd : ∀ m, w.grownBy (wr.drewN m) none := fun m => grown_drewN hgk m
        by_cases hkn : k < n + 40
        · have kI : (k : Int) < (n : Int) + 40 := by omega
          have his := Lib.hid (is_ok (p + 1) (by omega))
          have hsame : ((p + 1 : Nat) : Int) = (p : Int) + 1 := by push_cast; rfl
          rw [hsame] at his
          have hUp := hRk.out.us p hlt
          unfold fullL at hUp
          rw [hn.out] at hUp
          obtain ⟨gu', cu', hUe', hUR⟩ := lg_rep hUp (by omega)
          rw [hUe.out] at hUe'
          cases hUe'
          have y1 := rep_cell hUR hkn
          clear hUp hUR
          have hAd := Lib.hid hAk.drew
          have hRd : ∀ m, Hid (RestG (wr.drewN m) K rv q V U N q) := fun m => hRk.out.keep (grown_drewN (World.grownBy.refl wr none) m)
          by_cases hkl : k < n
          · have kl : decide ((k : Int) < (n : Int)) = true := decide_eq_true (by omega)
            have hLp := hRk.out.vs p hlt
            unfold full at hLp
            rw [hn.out] at hLp
            obtain ⟨gv, cv, hVe, hVR⟩ := lg_rep hLp (by omega)
            rw [hVp.out] at hVe
            cases hVe
            have y0 := rep_cell hVR hkl
            clear hLp hVR hRk hAk
            go_wp2_with fail
            go_quiet ((go_at_call 73; exact quiet_same (his.out _)))
            go_wp2_with fail
            go_roundw
            case rel => exact ⟨k + 1, by omega, by go_num, hRd _, hAd.out, hgd _⟩
            case measure => exact meas_up (n + 40) k hkn
          · have kl : decide ((k : Int) < (n : Int)) = false := decide_eq_false (by omega)
            clear hRk hAk
            go_wp2_with fail
            go_quiet ((go_at_call 73; exact quiet_same (his.out _)))
            go_wp2_with fail
            go_roundw
            case rel => exact ⟨k + 1, by omega, by go_num, hRd _, hAd.out, hgd _⟩
            case measure => exact meas_up (n + 40) k hkn
        · obtain rfl : n + 40 = k := by omega
          clear hgd
          go_wp2_with fail
          go_roundw
          case rel => exact ⟨p + 1, by omega, by go_num, hRk.out, hgk⟩
          case measure => exact meas_up q p hlt
    · obtain rfl : q = p := by omega
      replace hrv := Lib.hid hrv
      clear hA1
      go_wp2_with fail
      go_ret
      exact ⟨rfl, hgr⟩
end BkWord
end Go.Proofs.YtneamjaglgnmkaaGreatDoor
