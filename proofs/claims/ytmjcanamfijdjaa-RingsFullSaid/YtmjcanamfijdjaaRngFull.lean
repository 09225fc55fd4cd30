/- RingsFull. -/
import Derived.Test.YtmjcanamfijdjaaRngA
namespace Go.Proofs.Ytmjcanamfijdjaa
open Go.RowKit Go.Shelf Tk
set_option linter.unusedVariables false
set_option linter.unusedSimpArgs false

/-- 0, 3, 6 .. -/
def thr (k : Nat) : List Int := (List.range k).map fun (i : Nat) => 3 * (i : Int)
theorem thr_len (k : Nat) : (thr k).length = k := by simp [thr]
theorem thr_succ (k : Nat) : thr (k + 1) = thr k ++ [3 * (k : Int)] := by unfold thr; rw [List.range_succ, List.map_append]; rfl
theorem gd_thr {k i : Nat} (h : i < k) : gd (thr k) i = 3 * (i : Int) := by
  rw [gd_lt (by rw [thr_len]; exact h)]; simp [thr]
theorem mem_thr {k : Nat} {x : Int} : x ∈ thr k ↔ ∃ i, i < k ∧ 3 * (i : Int) = x := by simp [thr]
theorem thr_nodup {k i j : Nat} (hi : i < k) (hj : j < k) (h : gd (thr k) i = gd (thr k) j) : i = j := by
  rw [gd_thr hi, gd_thr hj] at h; omega
theorem new_at (n : Nat) (x : Int) (hx : x = n) (h1 : 1 ≤ n) (h2 : n ≤ 1024) (w : World) :
    Calls Try.prog 19 #[.int .i64 x] w fun e w' => ∃ B M, e = .returned (.tuple #[.pointer (some ⟨B, 0, none⟩), .int .i64 0]) ∧ Rg w' B M n [] 0 (fun _ => 0) ∧ w.heap.size ≤ M ∧ w.heap.size ≤ B ∧ w.grownBy w' none := new_ok n x hx h1 h2 w
set_option maxRecDepth 100000 in
set_option maxHeartbeats 8000000 in
theorem ringsFull_walk (m : Int) (wm : (Lit.int .u8 m).wf = true) (h : Int) (wh : (Lit.int .u16 h).wf = true) (w : World) :
    Calls Try.prog 7 #[.int .u8 m, .int .u16 h] w fun e w' => e = .returned (.bool true) ∧ w.grownBy w' none := by
  obtain ⟨m1, m2⟩ := wf_u8 wm
  obtain ⟨h1, h2⟩ := wf_u16 wh
  clear wm wh
  obtain ⟨Hn, rfl⟩ := Int.eq_ofNat_of_zero_le h1
  obtain ⟨N, hN, hN1, hN2⟩ : ∃ N : Nat, (1 + m) = (N : Int) ∧ 1 ≤ N ∧ N ≤ 256 := ⟨m.toNat + 1, by omega, by omega, by omega⟩
  obtain ⟨z, hz, hzN⟩ : ∃ z : Nat, ((Hn : Int) % (N : Int)) = z ∧ z < N := ⟨Hn % N, by simp, Nat.mod_lt _ hN1⟩
  replace hN := Lib.hid hN
  have hb0 : (0 : Int) ≤ (Hn : Int) % (N : Int) := by omega
  have hb1 : (Hn : Int) % (N : Int) ≤ 256 := by omega
  replace hz := Lib.hid hz
  clear h1
  go_enter Try.func7, Try.ntmps7
  go_wp2_with fail
  refine (new_ok N _ hN.out hN1 (by omega) _).mono ?_; rintro e wa ⟨B, M, rfl, hR, hM, hB, hg⟩
  rw [hN.out]
  go_wp2_with fail
  go_loopw [8] (fun i wr => ∃ (k f : Nat) (c : Nat → Int), k ≤ N ∧ i = .int .i64 k ∧ Rg wr B M N (thr k) f c ∧ w.grownBy wr none) (fun i _ => N - (intOf i).toNat)
  case atStart => exact ⟨0, _, _, Nat.zero_le _, rfl, hR, hg⟩
  case round =>
    obtain ⟨k, f, c, hk, rfl, hR, hg⟩ := hrel
    by_cases hlt : k < N
    · have hts := Lib.hid (thr_succ k)
      have hr : Hid (putRes (thr k) N (3 * (k : Int)) = 0) := putRes_zero (by omega) (fun hm => by obtain ⟨i, hi, e⟩ := mem_thr.1 hm; omega) (by rw [thr_len]; exact hlt)
      go_wp2_with fail
      refine (put_ok (3 * (k : Int)) hr.out hR).mono ?_; rintro e w1 ⟨rfl, ⟨f1, c1, hR1⟩, g1⟩
      have hg1 := fr_step hg g1 hB hM
      go_wp2_with fail
      go_roundw
      case rel => exact ⟨k + 1, f1, c1, by omega, by go_num, by rw [hts.out]; exact hR1, hg1⟩
      case measure => simp [intOf] <;> omega
    · obtain rfl : N = k := by omega
      have hln := Lib.hid (thr_len N)
      have hn1 : Hid ((1 : Int) ∉ thr N) := fun hm => by obtain ⟨i, hi, e⟩ := mem_thr.1 hm; omega
      have hn2 : Hid ((2 : Int) ∉ thr N) := fun hm => by obtain ⟨i, hi, e⟩ := mem_thr.1 hm; omega
      have hr1 : Hid (putRes (thr N) N 1 = 10) := by show _ = _; unfold putRes; rw [if_neg (by decide), if_neg hn1.out, if_pos hln.out]
      have hzm : Hid (3 * (z : Int) ∈ thr N) := mem_thr.2 ⟨z, hzN, rfl⟩
      have hr7 : Hid (putRes (thr N) N (3 * (z : Int)) = 7) := by show _ = _; unfold putRes; rw [if_neg (by omega), if_pos hzm.out]
      have hN0 : (0 : Int) < (N : Int) := by omega
      have hNz : ¬ N = 0 := by omega
      replace hzN := Lib.hid hzN
      clear hlt hk
      go_wp2_with fail
      try rw [hz.out]
      have hz3 : (z : Int) ≤ 256 := by have := hzN.out; omega
      go_wp2_with fail
      refine (put_res 1 10 (by decide) hr1.out hR).mono ?_; rintro e w1 ⟨rfl, n1, rfl⟩
      go_wp2_with fail
      refine (push_res 1 10 (by decide) hr1.out (hR.drewN n1)).mono ?_; rintro e w1 ⟨rfl, n2, rfl⟩
      go_wp2_with fail
      refine (put_res (3 * (z : Int)) 7 (by decide) hr7.out (hR.drewN (n1 + n2))).mono ?_; rintro e w1 ⟨rfl, n3, rfl⟩
      have hg3 := grown_drewN hg (n1 + n2 + n3)
      go_wp2_with fail
      refine (remove_ok (3 * (z : Int)) hzm.out (hR.drewN (n1 + n2 + n3))).mono ?_; rintro e w4 ⟨rfl, ⟨j, f4, c4, hj, hgj, -, hR4⟩, g4⟩
      have hjz : j = z := by
        rw [hln.out] at hj
        rw [gd_thr hj] at hgj; omega
      subst hjz
      have hg4 := fr_step hg3 g4 hB hM
      have hel : Hid (((thr N).eraseIdx j).length = N - 1) := by show _ = _; rw [List.length_eraseIdx, if_pos hj, hln.out]
      have hm1 : Hid ((1 : Int) ∉ (thr N).eraseIdx j) := fun hm => hn1.out (List.mem_of_mem_eraseIdx hm)
      have hm2 : Hid ((2 : Int) ∉ 1 :: (thr N).eraseIdx j) := fun hm => by
        rw [List.mem_cons] at hm
        rcases hm with hm | hm
        · exact absurd hm (by decide)
        · exact hn2.out (List.mem_of_mem_eraseIdx hm)
      have hr0 : Hid (putRes ((thr N).eraseIdx j) N 1 = 0) := putRes_zero (by decide) hm1.out (by rw [hel.out]; omega)
      have hl2 : Hid ((1 :: (thr N).eraseIdx j).length = N) := by show _ = _; rw [List.length_cons, hel.out]; omega
      have hr2 : Hid (putRes (1 :: (thr N).eraseIdx j) N 2 = 10) := by show _ = _; unfold putRes; rw [if_neg (by decide), if_neg hm2.out, if_pos hl2.out]
      have he0 : Hid (gd (1 :: (thr N).eraseIdx j) 1 = if 0 < j then gd (thr N) 0 else gd (thr N) 1) := by
        show gd ((thr N).eraseIdx j) 0 = _
        rw [gd_erase]
      clear hg hR hg3 g4 hgj hj
      go_wp2_with fail
      refine (push_ok 1 hr0.out hR4).mono ?_; rintro e w5 ⟨rfl, ⟨f5, c5, hR5⟩, g5⟩
      have hg5 := fr_step hg4 g5 hB hM
      clear hR4 hg4 g5
      go_wp2_with fail
      refine (put_res 2 10 (by decide) hr2.out hR5).mono ?_; rintro e w6 ⟨rfl, n6, rfl⟩
      have hR6 := hR5.drewN n6
      have hg6 := grown_drewN hg5 n6
      go_wp2_with fail
      refine (list_n N hl2.out hR6).mono ?_; rintro e w7 ⟨A, k, rfl, hk, hL, g7⟩
      have hg7 := grown_trans hg6 g7
      have hs7 := hL.sl
      go_wp2_with fail
      refine (alive_any _).mono ?_; rintro e w8 ⟨rfl, g8⟩
      have hs8 := hs7.kept g8 (by simp)
      have hg8 := grown_trans hg7 g8
      obtain ⟨b, o, rfl, hc0⟩ := hs8.at (i := 0) (by rw [hl2.out]; exact hN1)
      replace hc0 : w8.cell? ⟨b, o, none⟩ = some (.int .i64 1) := hc0
      by_cases hN1' : N = 1
      · have hb : ((N : Int) == 1) = true := by rw [beq_iff_eq]; omega
        have hNN : ((N : Int) == (N : Int)) = true := by simp
        replace hN1' := Lib.hid hN1'
        go_wp2_with fail
        go_ret
        exact ⟨rfl, hg8⟩
      · have hb : ((N : Int) == 1) = false := by rw [beq_eq_false_iff_ne]; omega
        have hN2' : 1 < N := by omega
        have hc1 := hs8.cell (i := 1) (by rw [hl2.out]; exact hN2')
        rw [he0.out] at hc1
        replace hN1' := Lib.hid hN1'
        by_cases hj0 : 0 < j
        · have hjj : decide ((0 : Int) < 3 * (j : Int)) = true := decide_eq_true (by omega)
          rw [if_pos hj0, gd_thr (by omega)] at hc1
          replace hc1 : w8.cell? ⟨b, o + 1, none⟩ = some (.int .i64 0) := hc1
          have hj3 : 0 < 3 * (j : Int) := by omega
          go_wp2_with fail
          go_ret
          exact ⟨rfl, hg8⟩
        · obtain rfl : j = 0 := by omega
          rw [if_neg hj0, gd_thr hN2'] at hc1
          replace hc1 : w8.cell? ⟨b, o + 1, none⟩ = some (.int .i64 3) := hc1
          go_wp2_with fail
          go_ret
          exact ⟨rfl, hg8⟩
end Go.Proofs.Ytmjcanamfijdjaa
