/- QueuesTwo. -/
import Derived.Test.YtekcalpoghcefaaQueA
namespace Go.Proofs.Ytekcalpoghcefaa
open Go.RowKit Go.Shelf Tk
set_option linter.unusedVariables false
set_option linter.unusedSimpArgs false

theorem SlA_tail {w : World} {lo hi : Nat} {k : IntKind} {b o : Nat} {v : Int} {xs : List Int} (h : SlA w lo hi k (some ⟨b, o, none⟩) (v :: xs)) : SlA w lo hi k (some ⟨b, o + 1, none⟩) xs := by
  refine ⟨h.1, ?_⟩
  rcases h.2 with h' | ⟨b', o', hA, h1, h2, hc⟩
  · cases h'
  · cases hA
    right; exact ⟨b, o + 1, rfl, h1, h2, fun i hi => by
      have := hc (i + 1) (by simp; omega)
      rw [show o + 1 + i = o + (i + 1) by omega, this]; rfl⟩
set_option maxRecDepth 100000 in
set_option maxHeartbeats 8000000 in
theorem queuesTwo_walk (A0 : Option Addr) (c0 : Nat) (xs : List Int) (hl0 : xs.length ≤ c0) (v : Int) (wv : (Lit.int .u32 v).wf = true) (w : World)
    (hs0 : SlA w 0 w.heap.size .u32 A0 xs) (hf0 : ∀ x ∈ xs, (Lit.int .u32 x).wf = true) (hb0 : xs.length * 4 ≤ 140737488351232) :
    Calls Try.prog 7 #[.slice A0 xs.length c0, .int .u32 v] w fun e w' => e = .returned (.bool true) ∧ w.grownBy w' none := by
  clear hf0 wv
  by_cases hlen : 32 < xs.length
  · have hd : decide ((32 : Int) < (xs.length : Int)) = true := by simp; omega
    clear hlen
    go_enter Try.func7, Try.ntmps7
    go_wp2_with fail
    refine (alive_any _).mono ?_; rintro e wd ⟨rfl, hg⟩
    go_wp2_with fail
    refine (alive_any _).mono ?_; rintro e we ⟨rfl, hg2⟩
    go_wp2_with fail
    go_ret
    exact ⟨rfl, grown_trans hg hg2⟩
  · have hx : xs.length ≤ 32 := by omega
    have hd : decide ((32 : Int) < (xs.length : Int)) = false := by simp; omega
    clear hlen
    have hK0 := Lib.hid (fun wr (h : w.grownBy wr none) => hs0.kept h (by simp))
    clear hs0
    go_enter Try.func7, Try.ntmps7
    go_wp2_with fail
    refine (alive_any _).mono ?_; rintro e wd ⟨rfl, hg⟩
    have hwd := hg.size
    go_wp2_with fail
    refine (new_ok 33 (by decide) (by decide) _).mono ?_; rintro e wa ⟨rfl, hQ, hga, hsz⟩
    have hgw := grown_trans hg hga
    go_wp2_with fail
    refine (new_ok 33 (by decide) (by decide) _).mono ?_; rintro e wb ⟨rfl, hR, hgb, hszb⟩
    have hQ := hQ.keep hgb
    have hgw := grown_trans hgw hgb
    rw [hsz] at hR
    go_wp2_with fail
    try rw [hsz]
    obtain ⟨B, hB⟩ : ∃ B, wd.heap.size = B := ⟨_, rfl⟩
    have hBw : w.heap.size ≤ B := by omega
    rw [hB] at hQ hR ⊢
    clear hB hsz hg hga hszb hgb
    go_loopw [9] (fun i wr => ∃ (k : Nat) (f : Nat) (c : Nat → Int) (f2 : Nat) (c2 : Nat → Int), k ≤ xs.length ∧ i = .int .i64 k ∧ Que wr B 33 (xs.take k) f c ∧ Que wr (B + 1) 33 (xs.take k) f2 c2 ∧ w.grownBy wr none) (fun i _ => xs.length - (intOf i).toNat)
    case atStart => exact ⟨0, _, _, _, _, Nat.zero_le _, rfl, hQ, hR, hgw⟩
    case round =>
      obtain ⟨k, f, c, f2, c2, hk, rfl, hQ, hR, hg⟩ := hrel
      have htl : (xs.take k).length = k := by simp; omega
      by_cases hlt : k < xs.length
      · obtain ⟨b, o, rfl, hc⟩ := (hK0.out _ hg).at hlt
        have hts := Lib.hid (take_snoc hlt)
        generalize hxk : gd xs k = x at *
        replace hxk := Lib.hid hxk
        go_wp2_with fail
        refine (put_ok x _ hQ (by omega)).mono ?_; rintro e w1 ⟨rfl, ⟨c', hQ1⟩, g1⟩
        have hR1 := hR.kept g1 (by simp)
        have hg1 := grown_step hg g1 hBw
        clear hc
        have hc := (hK0.out _ hg1).cell hlt
        rw [hxk.out] at hc
        go_wp2_with fail
        refine (put_ok x _ hR1 (by omega)).mono ?_; rintro e w2 ⟨rfl, ⟨c2', hR2⟩, g2⟩
        have hQ2 := hQ1.kept g2 (by simp)
        have hg2 := grown_step hg1 g2 (by omega)
        go_wp2_with fail
        go_roundw
        case rel => exact ⟨k + 1, f, c', f2, c2', by omega, by go_num, by rw [← hts.out]; exact hQ2, by rw [← hts.out]; exact hR2, hg2⟩
        case measure => simp [intOf]; omega
      · obtain rfl : k = xs.length := by omega
        rw [List.take_length] at hQ hR
        clear hgw
        go_wp2_with fail
        refine (list_ok _ hQ).mono ?_; rintro e w1 ⟨A, kk, rfl, hkk, hM, g1⟩
        have hg1 := grown_trans hg g1
        have hQ1 := hQ.keep g1
        have hR1 := hR.keep g1
        go_wp2_with fail
        refine (list_ok _ hR1).mono ?_; rintro e w2 ⟨A2, kk2, rfl, hkk2, hM2, g2⟩
        have hg2 := grown_trans hg1 g2
        have hQ2 := hQ1.keep g2
        have hR2 := hR1.keep g2
        have hs2 := hM.sl.kept g2 (by simp)
        go_wp2_with fail
        refine (sameWords_any _ _ _ _ _ _ _ _ xs xs _ hkk hkk2 (by omega) (by omega) hs2 hM2.sl).mono ?_; rw [decide_eq_true rfl]; rintro e w3 ⟨rfl, n, rfl⟩
        have hQ3 := hQ2.keep (grown_drewN (grown_refl w2 none) n)
        have hR3 := hR2.keep (grown_drewN (grown_refl w2 none) n)
        have hg3 := grown_drewN hg2 n
        clear hQ hR hQ1 hR1 hQ2 hR2 hM hM2 hs2 g1 g2 hg1 hg2
        go_wp2_with fail
        refine (push_ok v _ hQ3 (by omega)).mono ?_; rintro e w4 ⟨rfl, ⟨f4, c4, hQ4⟩, g4⟩
        have hR4 := hR3.kept g4 (by simp)
        have hg4 := grown_step hg3 g4 hBw
        go_wp2_with fail
        refine (list_ok _ hQ4).mono ?_; rintro e w5 ⟨A5, k5, rfl, hk5, hM5, g5⟩
        have hR5 := hR4.keep g5
        have hg5 := grown_trans hg4 g5
        go_wp2_with fail
        refine (list_ok _ hR5).mono ?_; rintro e w6 ⟨A6, k6, rfl, hk6, hM6, g6⟩
        have hg6 := grown_trans hg5 g6
        have hM5' := hM5.keep g6
        go_wp2_with fail
        refine (sameWords_any _ _ _ _ _ _ _ _ xs xs _ hk6 hl0 (by omega) (by omega) hM6.sl (hK0.out _ hg6)).mono ?_; rw [decide_eq_true rfl]; rintro e w7 ⟨rfl, n7, rfl⟩
        have hM7 := hM5'.drewN n7
        have hg7 := grown_drewN hg6 n7
        obtain ⟨A7, k7, e7, -, -, hF⟩ := hM7.form
        simp only [Value.slice.injEq] at e7
        obtain ⟨rfl, -, rfl⟩ := e7
        rcases hF with ⟨-, h9⟩ | ⟨g, rfl, -, -⟩
        · cases h9
        have hc7 := hM7.cell (i := 0) (by simp)
        have hs7 := SlA_tail hM7.sl
        have hv0 : gd (v :: xs) 0 = v := rfl
        rw [hv0] at hc7
        have hln : (((v :: xs).length : Int) == (xs.length : Int) + 1) = true := by rw [beq_iff_eq]; simp
        have hvv : (v == v) = true := beq_self_eq_true v
        obtain ⟨W, hW⟩ : ∃ W, w6.drewN n7 = W := ⟨_, rfl⟩
        rw [hW] at hM7 hg7 hc7 hs7 ⊢
        have hn1 : (v :: xs).length = xs.length + 1 := rfl
        rw [hn1] at hk5 hln
        push_cast at hln
        clear hW hM7 hM5 hM5' hv0
        go_wp2_with fail
        · have hx0 : xs.length = 0 := by omega
          have hs8 : SlA W 0 0 .u32 (some ⟨g, 0, none⟩) xs := ⟨Nat.zero_le _, .inl (List.length_eq_zero_iff.1 hx0)⟩
          refine (sameWords_any _ _ _ _ _ _ _ _ xs xs _ (by omega) hl0 (by omega) (by omega) hs8 (hK0.out _ hg7)).mono ?_; rw [decide_eq_true rfl]; rintro e w8 ⟨rfl, n8, rfl⟩
          clear hx0
          go_wp2_with fail
          go_ret
          exact ⟨rfl, grown_drewN hg7 _⟩
        · refine (sameWords_any _ _ _ _ _ _ _ _ xs xs _ (by omega) hl0 (by omega) (by omega) hs7 (hK0.out _ hg7)).mono ?_; rw [decide_eq_true rfl]; rintro e w8 ⟨rfl, n8, rfl⟩
          go_wp2_with fail
          go_ret
          exact ⟨rfl, grown_drewN hg7 _⟩
end Go.Proofs.Ytekcalpoghcefaa
