/- QueuesCount. -/
import Derived.Test.YtekcalpoghcefaaQueA
import Derived.Test.YtekcalpoghcefaaRws
namespace Go.Proofs.Ytekcalpoghcefaa
open Go.RowKit Go.Shelf Tk
set_option linter.unusedVariables false
set_option linter.unusedSimpArgs false

theorem new_at (m : Nat) (x : Int) (hx : x = m) (h1 : 1 ≤ m) (h2 : m ≤ 64) (w : World) :
    Calls Try.prog 15 #[.int .i64 x] w fun e w' => e = .returned (.tuple #[.pointer (some ⟨w.heap.size, 0, none⟩), .int .i64 0]) ∧ Que w' w.heap.size m [] 0 (fun _ => 0) ∧ w.grownBy w' none ∧ w'.heap.size = w.heap.size + 1 := by
  subst hx; exact new_ok m h1 h2 w
theorem list_len {B m : Nat} {ms : List Int} {f : Nat} {c : Nat → Int} (n : Nat) (hn : ms.length = n) (w : World) (h : Que w B m ms f c) : Calls Try.prog 13 #[.pointer (some ⟨B, 0, none⟩)] w fun e w' => ∃ A k, e = .returned (.slice A n k) ∧ n ≤ k ∧ w.grownBy w' none := by
  subst hn
  refine (list_ok w h).mono ?_
  rintro e w' ⟨A, k, rfl, h1, -, h2⟩
  exact ⟨A, k, rfl, h1, h2⟩
theorem six (r : Nat) : ((r : Int) % 6 == 0) = true ∨ (((r : Int) % 6 == 0) = false ∧ ((r : Int) % 6 == 1) = true) ∨ (((r : Int) % 6 == 0) = false ∧ ((r : Int) % 6 == 1) = false ∧ ((r : Int) % 6 == 2) = true) ∨
    (((r : Int) % 6 == 0) = false ∧ ((r : Int) % 6 == 1) = false ∧ ((r : Int) % 6 == 2) = false ∧ ((r : Int) % 6 == 3) = true) ∨
    (((r : Int) % 6 == 0) = false ∧ ((r : Int) % 6 == 1) = false ∧ ((r : Int) % 6 == 2) = false ∧ ((r : Int) % 6 == 3) = false ∧ ((r : Int) % 6 == 4) = true) ∨
    (((r : Int) % 6 == 0) = false ∧ ((r : Int) % 6 == 1) = false ∧ ((r : Int) % 6 == 2) = false ∧ ((r : Int) % 6 == 3) = false ∧ ((r : Int) % 6 == 4) = false) := by
  simp only [beq_iff_eq, beq_eq_false_iff_ne]; omega
set_option maxRecDepth 100000 in
set_option maxHeartbeats 8000000 in
theorem queuesCount_walk (m : Int) (wm : (Lit.int .u8 m).wf = true) (A0 : Option Addr) (c0 : Nat) (L : Nat) (R : Nat → Nat → Int) (hl0 : L ≤ c0) (w : World)
    (hs0 : RowsA w [.u8, .u32] A0 L R) (hf0 : ∀ i, i < L → ∀ q, q < [IntKind.u8, .u32].length → (Lit.int ([IntKind.u8, .u32].getD q .u8) (R i q)).wf = true) (hb0 : L * 8 ≤ 140737488351232) :
    Calls Try.prog 8 #[.int .u8 m, .slice A0 L c0] w fun e w' => e = .returned (.bool true) ∧ w.grownBy w' none := by
  have hfit : ∀ i, i < L → 0 ≤ R i 0 ∧ R i 0 < 256 := fun i hi => by
    have := hf0 i hi 0 (by decide)
    exact wf_u8 this
  replace hfit := Lib.hid hfit
  clear hf0
  by_cases hlen : 100 < L
  · have hd : decide ((100 : Int) < (L : Int)) = true := by simp; omega
    clear hlen
    go_enter Try.func8, Try.ntmps8
    go_wp2_with fail
    refine (alive_any _).mono ?_; rintro e wd ⟨rfl, hg⟩
    go_wp2_with fail
    refine (alive_any _).mono ?_; rintro e we ⟨rfl, hg2⟩
    go_wp2_with fail
    go_ret
    exact ⟨rfl, grown_trans hg hg2⟩
  · have hL : L ≤ 100 := by omega
    have hd : decide ((100 : Int) < (L : Int)) = false := by simp; omega
    clear hlen
    obtain ⟨m1, m2⟩ := wf_u8 wm
    clear wm
    obtain ⟨N, hN, hN1, hN2⟩ : ∃ N : Nat, (1 + m % 64) = (N : Int) ∧ 1 ≤ N ∧ N ≤ 64 := ⟨(m % 64).toNat + 1, by omega, by omega, by omega⟩
    replace hN := Lib.hid hN
    have hK0 := Lib.hid (fun wr (h : w.grownBy wr none) => hs0.kept h)
    clear hs0
    go_enter Try.func8, Try.ntmps8
    go_wp2_with fail
    refine (alive_any _).mono ?_; rintro e wd ⟨rfl, hg⟩
    have hwd := hg.size
    go_wp2_with fail
    refine (new_at N _ hN.out hN1 hN2 _).mono ?_; rintro e wa ⟨rfl, hQ, hga, hsz⟩
    have hgw := grown_trans hg hga
    obtain ⟨B, hB⟩ : ∃ B, wd.heap.size = B := ⟨_, rfl⟩
    have hBw : w.heap.size ≤ B := by omega
    rw [hB] at hQ ⊢
    clear hB hsz hg hga
    rw [hN.out]
    go_wp2_with fail
    go_loopw [8, 9] (fun nv i wr => ∃ (k n f : Nat) (c : Nat → Int) (ms : List Int), k ≤ L ∧ i = .int .i64 k ∧ nv = .int .i64 n ∧ Hid (ms.length = n) ∧ Que wr B N ms f c ∧ w.grownBy wr none) (fun _ i _ => L - (intOf i).toNat)
    case atStart => exact ⟨0, 0, _, _, [], Nat.zero_le _, rfl, rfl, rfl, hQ, hgw⟩
    case round =>
      obtain ⟨k, n, f, c, ms, hk, rfl, rfl, hn, hQ, hg⟩ := hrel
      by_cases hlt : k < L
      · obtain ⟨b, o, rfl, hb, hcs⟩ := (hK0.out _ hg).at hlt
        have hc := hcs 0 (by decide)
        have hc1 := hcs 1 (by decide)
        obtain ⟨r1, r2⟩ := hfit.out k hlt
        generalize R k 0 = r at *
        generalize hv : R k 1 = v at *
        obtain ⟨r, rfl⟩ := Int.eq_ofNat_of_zero_le r1
        have hr := six r
        have hle : n ≤ N := by have := hQ.le; rw [hn.out] at this; exact this
        have hle2 := Lib.hid hle
        clear r1 hcs
        simp only [List.length_cons, List.length_nil, Nat.reduceAdd, Nat.add_zero, List.getD_cons_zero, List.getD_cons_succ] at hc hc1
        rcases hr with d0 | ⟨d0, d1⟩ | ⟨d0, d1, d2⟩ | ⟨d0, d1, d2, d3⟩ | ⟨d0, d1, d2, d3, d4⟩ | ⟨d0, d1, d2, d3, d4⟩
        · -- 0
          have d2 : ((r : Int) % 6 == 2) = false := by simp only [beq_iff_eq, beq_eq_false_iff_ne] at *; omega
          by_cases hroom : n < N
          · have hdr : decide ((n : Int) < (N : Int)) = true := by simp; omega
            clear hle hdr
            go_wp2_with fail
            refine (put_ok v _ hQ (by have := hn.out; omega)).mono ?_; rintro e w1 ⟨rfl, ⟨c1, hQ1⟩, g1⟩
            have hg1 := grown_step hg g1 hBw
            go_wp2_with fail
            refine (list_len (n + 1) (by simp; exact hn.out) _ hQ1).mono ?_; rintro e w2 ⟨A2, k2, rfl, hk2, g2⟩
            have hQ2 := hQ1.keep g2
            have hg2 := grown_trans hg1 g2
            go_wp2_with fail
            go_roundw
            case rel => exact ⟨k + 1, _, _, _, _, by omega, by go_num, by go_num, (by simp; exact hn.out), hQ2, hg2⟩
            case measure => simp [intOf]; omega
          · have hdr : decide ((n : Int) < (N : Int)) = false := by simp; omega
            have hnN : n = N := by omega
            replace hnN := Lib.hid hnN
            have hge : N ≤ n := by omega
            clear hle hdr
            go_wp2_with fail
            refine (put_no _ _ 10 (by decide) _ (room_full _ hQ (by rw [hn.out, hnN.out]))).mono ?_; rintro e w1 ⟨rfl, g1⟩
            have hg1 := grown_trans hg g1
            have hQ1 := hQ.keep g1
            go_wp2_with fail
            refine (list_len n hn.out _ hQ1).mono ?_; rintro e w2 ⟨A2, k2, rfl, hk2, g2⟩
            have hQ2 := hQ1.keep g2
            have hg2 := grown_trans hg1 g2
            go_wp2_with fail
            go_roundw
            case rel => exact ⟨k + 1, _, _, _, _, by omega, by go_num, by go_num, hn.out, hQ2, hg2⟩
            case measure => simp [intOf]; omega
        · -- 1
          have d2 : ((r : Int) % 6 == 2) = false := by simp only [beq_iff_eq, beq_eq_false_iff_ne] at *; omega
          by_cases hroom : n < N
          · have hdr : decide ((n : Int) < (N : Int)) = true := by simp; omega
            clear hle hdr
            go_wp2_with fail
            refine (put_ok v _ hQ (by have := hn.out; omega)).mono ?_; rintro e w1 ⟨rfl, ⟨c1, hQ1⟩, g1⟩
            have hg1 := grown_step hg g1 hBw
            go_wp2_with fail
            refine (list_len (n + 1) (by simp; exact hn.out) _ hQ1).mono ?_; rintro e w2 ⟨A2, k2, rfl, hk2, g2⟩
            have hQ2 := hQ1.keep g2
            have hg2 := grown_trans hg1 g2
            go_wp2_with fail
            go_roundw
            case rel => exact ⟨k + 1, _, _, _, _, by omega, by go_num, by go_num, (by simp; exact hn.out), hQ2, hg2⟩
            case measure => simp [intOf]; omega
          · have hdr : decide ((n : Int) < (N : Int)) = false := by simp; omega
            have hnN : n = N := by omega
            replace hnN := Lib.hid hnN
            have hge : N ≤ n := by omega
            clear hle hdr
            go_wp2_with fail
            refine (put_no _ _ 10 (by decide) _ (room_full _ hQ (by rw [hn.out, hnN.out]))).mono ?_; rintro e w1 ⟨rfl, g1⟩
            have hg1 := grown_trans hg g1
            have hQ1 := hQ.keep g1
            go_wp2_with fail
            refine (list_len n hn.out _ hQ1).mono ?_; rintro e w2 ⟨A2, k2, rfl, hk2, g2⟩
            have hQ2 := hQ1.keep g2
            have hg2 := grown_trans hg1 g2
            go_wp2_with fail
            go_roundw
            case rel => exact ⟨k + 1, _, _, _, _, by omega, by go_num, by go_num, hn.out, hQ2, hg2⟩
            case measure => simp [intOf]; omega
        · -- 2
          by_cases hroom : n < N
          · have hdr : decide ((n : Int) < (N : Int)) = true := by simp; omega
            clear hle hdr
            go_wp2_with fail
            refine (push_ok v _ hQ (by have := hn.out; omega)).mono ?_; rintro e w1 ⟨rfl, ⟨f1, c1, hQ1⟩, g1⟩
            have hg1 := grown_step hg g1 hBw
            go_wp2_with fail
            refine (list_len (n + 1) (by simp; exact hn.out) _ hQ1).mono ?_; rintro e w2 ⟨A2, k2, rfl, hk2, g2⟩
            have hQ2 := hQ1.keep g2
            have hg2 := grown_trans hg1 g2
            go_wp2_with fail
            go_roundw
            case rel => exact ⟨k + 1, _, _, _, _, by omega, by go_num, by go_num, (by simp; exact hn.out), hQ2, hg2⟩
            case measure => simp [intOf]; omega
          · have hdr : decide ((n : Int) < (N : Int)) = false := by simp; omega
            have hnN : n = N := by omega
            replace hnN := Lib.hid hnN
            have hge : N ≤ n := by omega
            clear hle hdr
            go_wp2_with fail
            refine (push_no _ _ 10 (by decide) _ (room_full _ hQ (by rw [hn.out, hnN.out]))).mono ?_; rintro e w1 ⟨rfl, g1⟩
            have hg1 := grown_trans hg g1
            have hQ1 := hQ.keep g1
            go_wp2_with fail
            refine (list_len n hn.out _ hQ1).mono ?_; rintro e w2 ⟨A2, k2, rfl, hk2, g2⟩
            have hQ2 := hQ1.keep g2
            have hg2 := grown_trans hg1 g2
            go_wp2_with fail
            go_roundw
            case rel => exact ⟨k + 1, _, _, _, _, by omega, by go_num, by go_num, hn.out, hQ2, hg2⟩
            case measure => simp [intOf]; omega
        · -- 3
          rcases ms with _ | ⟨y, ms⟩
          · obtain rfl : 0 = n := hn.out
            clear hle
            go_wp2_with fail
            refine (take_no _ 11 (by decide) _ (peek_empty _ hQ)).mono ?_; rintro e w' ⟨rfl, rfl⟩
            have hg1 := hg
            have hQ1 := hQ
            go_wp2_with fail
            refine (list_len 0 hn.out _ hQ1).mono ?_; rintro e w2 ⟨A2, k2, rfl, hk2, g2⟩
            have hQ2 := hQ1.keep g2
            have hg2 := grown_trans hg1 g2
            go_wp2_with fail
            go_roundw
            case rel => exact ⟨k + 1, _, _, _, _, by omega, by go_num, by go_num, hn.out, hQ2, hg2⟩
            case measure => simp [intOf]; omega
          · obtain ⟨n, rfl⟩ : ∃ n', n = n' + 1 := ⟨ms.length, hn.out.symm⟩
            have hn1 : Hid (ms.length = n) := by have := hn.out; simp at this; exact this
            have hdr : decide ((0 : Int) < (n : Int) + 1) = true := decide_eq_true (by omega)
            go_wp2_with fail
            refine (take_ok _ hQ).mono ?_; rintro e w1 ⟨rfl, ⟨f1, hQ1⟩, g1⟩
            have hg1 := grown_step hg g1 hBw
            go_wp2_with fail
            refine (list_len n hn1.out _ hQ1).mono ?_; rintro e w2 ⟨A2, k2, rfl, hk2, g2⟩
            have hQ2 := hQ1.keep g2
            have hg2 := grown_trans hg1 g2
            go_wp2_with fail
            go_roundw
            case rel => exact ⟨k + 1, _, _, _, _, by omega, by go_num, by go_num, hn1.out, hQ2, hg2⟩
            case measure => simp [intOf]; omega
        · -- 4
          rcases ms with _ | ⟨y, ms⟩
          · obtain rfl : 0 = n := hn.out
            clear hle
            go_wp2_with fail
            refine (take_no _ 11 (by decide) _ (peek_empty _ hQ)).mono ?_; rintro e w' ⟨rfl, rfl⟩
            have hg1 := hg
            have hQ1 := hQ
            go_wp2_with fail
            refine (list_len 0 hn.out _ hQ1).mono ?_; rintro e w2 ⟨A2, k2, rfl, hk2, g2⟩
            have hQ2 := hQ1.keep g2
            have hg2 := grown_trans hg1 g2
            go_wp2_with fail
            go_roundw
            case rel => exact ⟨k + 1, _, _, _, _, by omega, by go_num, by go_num, hn.out, hQ2, hg2⟩
            case measure => simp [intOf]; omega
          · obtain ⟨n, rfl⟩ : ∃ n', n = n' + 1 := ⟨ms.length, hn.out.symm⟩
            have hn1 : Hid (ms.length = n) := by have := hn.out; simp at this; exact this
            have hdr : decide ((0 : Int) < (n : Int) + 1) = true := decide_eq_true (by omega)
            go_wp2_with fail
            refine (take_ok _ hQ).mono ?_; rintro e w1 ⟨rfl, ⟨f1, hQ1⟩, g1⟩
            have hg1 := grown_step hg g1 hBw
            go_wp2_with fail
            refine (list_len n hn1.out _ hQ1).mono ?_; rintro e w2 ⟨A2, k2, rfl, hk2, g2⟩
            have hQ2 := hQ1.keep g2
            have hg2 := grown_trans hg1 g2
            go_wp2_with fail
            go_roundw
            case rel => exact ⟨k + 1, _, _, _, _, by omega, by go_num, by go_num, hn1.out, hQ2, hg2⟩
            case measure => simp [intOf]; omega
        · -- 5
          clear hle
          go_wp2_with fail
          have hQ1 := hQ
          have hg1 := hg
          refine (list_len n hn.out _ hQ1).mono ?_; rintro e w2 ⟨A2, k2, rfl, hk2, g2⟩
          have hQ2 := hQ1.keep g2
          have hg2 := grown_trans hg1 g2
          go_wp2_with fail
          go_roundw
          case rel => exact ⟨k + 1, _, _, _, _, by omega, by go_num, by go_num, hn.out, hQ2, hg2⟩
          case measure => simp [intOf]; omega
      · go_wp2_with fail
        go_ret
        exact ⟨rfl, hg⟩
end Go.Proofs.Ytekcalpoghcefaa
