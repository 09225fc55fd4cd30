/- PoolsAgain. -/
import Derived.Test.YthdcogndmpeepaaPolA
namespace Go.Proofs.Ythdcogndmpeepaa
open Go.RowKit Go.Shelf Tk
set_option linter.unusedVariables false
set_option linter.unusedSimpArgs false

/-- k blocks of somebody's, the others nobody's. -/
def fill (v : Int) (N k : Nat) : List Int := List.replicate k v ++ List.replicate (N - k) 0
theorem fill_zero (v : Int) (N : Nat) : fill v N 0 = List.replicate N 0 := by simp [fill]
theorem fill_all (v : Int) (N : Nat) : fill v N N = List.replicate N v := by simp [fill]
theorem fill_len {v : Int} {N k : Nat} (h : k ≤ N) : (fill v N k).length = N := by simp [fill]; omega
theorem gd_fill {v : Int} {N k i : Nat} (h : k ≤ N) (hi : i < N) : gd (fill v N k) i = if i < k then v else 0 := by
  unfold fill gd
  by_cases h1 : i < k
  · rw [List.getElem?_append_left (by simpa using h1)]; simp [h1]
  · rw [List.getElem?_append_right (by simpa using h1)]
    simp only [List.length_replicate, h1, if_false]
    rw [List.getElem?_replicate, if_pos (by omega)]; rfl
theorem fill_set {v : Int} {N k : Nat} (h : k < N) : (fill v N k).set k v = fill v N (k + 1) := by
  apply ext_gd (by rw [List.length_set, fill_len (by omega), fill_len (by omega)])
  intro i hi
  rw [List.length_set, fill_len (by omega)] at hi
  rw [gd_set (by rw [fill_len (by omega)]; exact h), gd_fill (by omega) hi, gd_fill (by omega) hi]
  by_cases e : i = k
  · subst e; rw [if_pos rfl, if_pos (by omega)]
  · rw [if_neg e]
    have : i < k ↔ i < k + 1 := by omega
    simp only [this]
theorem count_free {os : List Int} {z : Nat} {v : Int} (hz : z < os.length) (h : gd os z = v) (hv : v ≠ 0) : (os.set z 0).count 0 = os.count 0 + 1 := by
  rw [gd_lt hz] at h
  rw [List.count_set hz, h]
  simp [hv]
theorem two_counts {v : Int} (hv : v ≠ 0) : ∀ {os : List Int}, (∀ x ∈ os, x = 0 ∨ x = v) → os.count 0 + os.count v = os.length
  | [], _ => rfl
  | x :: os, h => by
    have ih := two_counts hv (os := os) (fun y hy => h y (List.mem_cons_of_mem _ hy))
    rw [List.count_cons, List.count_cons, List.length_cons]
    rcases h x (by simp) with rfl | rfl
    · have : ((0 : Int) == v) = false := by rw [beq_eq_false_iff_ne]; exact fun e => hv e.symm
      simp [this]; omega
    · have : (x == (0 : Int)) = false := by rw [beq_eq_false_iff_ne]; exact hv
      simp [this]; omega
theorem map_two {v : Int} {os : List Int} {N : Nat} (hN : os.length = N) (h : ∀ x ∈ os, x = 0 ∨ x = v) : os.map (fun x => if x = v then 0 else x) = List.replicate N 0 := by
  rw [List.eq_replicate_iff]
  refine ⟨by simpa using hN, fun y hy => ?_⟩
  rw [List.mem_map] at hy
  obtain ⟨x, hx, rfl⟩ := hy
  rcases h x hx with rfl | rfl
  · by_cases h0 : (0 : Int) = v
    · rw [if_pos h0]
    · rw [if_neg h0]
  · rw [if_pos rfl]
theorem two_set {v : Int} {os : List Int} {z : Nat} (h : ∀ x ∈ os, x = 0 ∨ x = v) : ∀ x ∈ os.set z 0, x = 0 ∨ x = v := fun x hx => by
  rcases List.mem_or_eq_of_mem_set hx with h' | h'
  · exact h x h'
  · exact .inl h'
set_option maxRecDepth 100000 in
set_option maxHeartbeats 8000000 in
theorem poolsAgain_walk (m : Int) (wm : (Lit.int .u8 m).wf = true) (A1 : Option Addr) (c1 : Nat) (xs : List Int) (hl1 : xs.length ≤ c1) (v : Int) (wv : (Lit.int .u32 v).wf = true) (w : World)
    (hs1 : SlA w 0 w.heap.size .u8 A1 xs) (hf1 : ∀ x ∈ xs, (Lit.int .u8 x).wf = true) (hb1 : xs.length * 1 ≤ 140737488351232) :
    Calls Try.prog 9 #[.int .u8 m, .slice A1 xs.length c1, .int .u32 v] w fun e w' => e = .returned (.bool true) ∧ w.grownBy w' none := by
  obtain ⟨m1, m2⟩ := wf_u8 wm
  clear wm wv
  have hfit : Hid (∀ i, i < xs.length → 0 ≤ gd xs i ∧ gd xs i < 256) := fun i hi => wf_u8 (hf1 _ (gd_mem hi))
  clear hf1
  by_cases hlen : 100 < xs.length ∨ v = 0
  · have hd : decide ((100 : Int) < (xs.length : Int)) = true ∨ (decide ((100 : Int) < (xs.length : Int)) = false ∧ (v == 0) = true) := by
      simp only [decide_eq_true_eq, decide_eq_false_iff_not, beq_iff_eq]; omega
    clear hlen
    rcases hd with hd | ⟨hd, hd2⟩
    all_goals
      go_enter Try.func9, Try.ntmps9
      go_wp2_with fail
      refine (alive_any _).mono ?_; rintro e wd ⟨rfl, hg⟩
      go_wp2_with fail
      refine (alive_any _).mono ?_; rintro e we ⟨rfl, hg2⟩
      go_wp2_with fail
      go_ret
      exact ⟨rfl, grown_trans hg hg2⟩
  · have hx : xs.length ≤ 100 := by omega
    have hv : Hid (v ≠ 0) := by show _ ≠ _; omega
    have hd : decide ((100 : Int) < (xs.length : Int)) = false := by simp; omega
    have hd2 : (v == 0) = false := by rw [beq_eq_false_iff_ne]; omega
    clear hlen
    obtain ⟨N, hN, hN1, hN2⟩ : ∃ N : Nat, (1 + m % 64) = (N : Int) ∧ 1 ≤ N ∧ N ≤ 64 := ⟨(m % 64).toNat + 1, by omega, by omega, by omega⟩
    replace hN := Lib.hid hN
    have hK1 := Lib.hid (fun wr (h : w.grownBy wr none) => hs1.kept h (by simp))
    clear hs1
    go_enter Try.func9, Try.ntmps9
    go_wp2_with fail
    refine (alive_any _).mono ?_; rintro e wd ⟨rfl, hg⟩
    have hwd := hg.size
    go_wp2_with fail
    refine (of_ok m m1 m2 N hN.out _).mono ?_; rintro e wa ⟨rfl, hP, hga, hsz⟩
    rw [hN.out]
    have hgw := grown_trans hg hga
    obtain ⟨B, hB⟩ : ∃ B, wd.heap.size = B := ⟨_, rfl⟩
    have hBw : w.heap.size ≤ B := by omega
    rw [hB] at hP ⊢
    clear hB hsz hg hga
    go_wp2_with fail
    go_loopw [9, 10, 11, 12, 13, 14] (fun t _ _ _ _ _ wr => ∃ k : Nat, k ≤ 2 ∧ t = .int .i64 k ∧ Pl wr B (List.replicate N 0) ∧ w.grownBy wr none) (fun t _ _ _ _ _ _ => 2 - (intOf t).toNat)
    case atStart => exact ⟨0, by decide, rfl, hP, hgw⟩
    case round =>
      obtain ⟨t, ht, rfl, hP, hg⟩ := hrel
      by_cases ht2 : t < 2
      · have ht2' : (t : Int) < 2 := by omega
        go_wp2_with fail
        go_loopw [10, 11, 12] (fun i _ _ wr => ∃ k : Nat, k ≤ N ∧ i = .int .i64 k ∧ Pl wr B (fill v N k) ∧ w.grownBy wr none) (fun i _ _ _ => N - (intOf i).toNat)
        case atStart => exact ⟨0, Nat.zero_le _, rfl, by rw [fill_zero]; exact hP, hg⟩
        case round =>
          obtain ⟨k, hk, rfl, hP, hg⟩ := hrel
          by_cases hlt : k < N
          · have hfs := Lib.hid (fill_set (v := v) hlt)
            go_wp2_with fail
            refine (alloc_at v hv.out k (by rw [fill_len hk]; exact hlt) (by rw [gd_fill hk hlt, if_neg (by omega)]) (fun i hi => by rw [gd_fill hk (by omega), if_pos hi]; exact hv.out) _ hP).mono ?_; rintro e w1 ⟨rfl, hP1, g1⟩
            have hg1 := grown_step hg g1 hBw
            go_wp2_with fail
            go_roundw
            case rel => exact ⟨k + 1, by omega, by go_num, by rw [← hfs.out]; exact hP1, hg1⟩
            case measure => simp [intOf]; omega
          · obtain rfl : N = k := by omega
            rw [fill_all] at hP
            go_wp2_with fail
            go_loopw [13, 14] (fun bk i wr => ∃ (k b : Nat) (os : List Int), k ≤ xs.length ∧ i = .int .i64 k ∧ bk = .int .i64 b ∧ Hid (os.length = N) ∧ Hid (os.count 0 = b) ∧ Hid (∀ x ∈ os, x = 0 ∨ x = v) ∧ Pl wr B os ∧ w.grownBy wr none) (fun _ i _ => xs.length - (intOf i).toNat)
            case atStart => exact ⟨0, 0, _, Nat.zero_le _, rfl, rfl, List.length_replicate, List.count_eq_zero.2 (fun h => hv.out (List.eq_of_mem_replicate h).symm), fun x hx => .inr (List.eq_of_mem_replicate hx), hP, hg⟩
            case round =>
              obtain ⟨k, b, os, hk, rfl, rfl, hol, hoc, hoe, hP, hg⟩ := hrel
              have hbN : b ≤ N := by have := List.count_le_length (a := (0 : Int)) (l := os); rw [hoc.out, hol.out] at this; exact this
              by_cases hlt : k < xs.length
              · obtain ⟨b1, o1, rfl, hc⟩ := (hK1.out _ hg).at hlt
                obtain ⟨f1, f2⟩ := hfit.out k hlt
                generalize gd xs k = x at *
                obtain ⟨x, rfl⟩ := Int.eq_ofNat_of_zero_le f1
                obtain ⟨z, hz, hzN⟩ : ∃ z : Nat, ((x : Int) % (N : Int)) = z ∧ z < N := ⟨x % N, by simp, Nat.mod_lt _ hN1⟩
                replace hz := Lib.hid hz
                have hN0 : (0 : Int) < (N : Int) := by omega
                replace hzN := Lib.hid hzN
                clear f1
                by_cases he : gd os z = v
                · have hcf := Lib.hid (count_free (by rw [hol.out]; exact hzN.out) he hv.out)
                  replace he := Lib.hid he
                  go_wp2_with fail
                  refine (free_is v _ hv.out z hz.out (by rw [hol.out]; exact hzN.out) he.out _ hP).mono ?_; rintro e w1 ⟨rfl, hP1, g1⟩
                  have hg1 := grown_step hg g1 hBw
                  go_wp2_with fail
                  go_roundw
                  case rel => exact ⟨k + 1, b + 1, _, by omega, by go_num, by go_num, by show _ = _; rw [List.length_set]; exact hol.out, by show _ = _; rw [hcf.out, hoc.out], two_set hoe.out, hP1, hg1⟩
                  case measure => simp [intOf]; omega
                · replace he := Lib.hid he
                  go_wp2_with fail
                  refine (free_other v _ hv.out z hz.out (by rw [hol.out]; exact hzN.out) he.out _ hP).mono ?_; rintro e w' ⟨rfl, rfl⟩
                  go_wp2_with fail
                  go_roundw
                  case rel => exact ⟨k + 1, b, os, by omega, by go_num, rfl, hol, hoc, hoe, hP, hg⟩
                  case measure => simp [intOf]; omega
              · have htc := two_counts hv.out hoe.out
                rw [hoc.out, hol.out] at htc
                have hcv : os.count v = N - b := by omega
                have hmt := map_two hol.out hoe.out
                have hlf := left_ok _ hP
                rw [hoc.out] at hlf
                replace hlf := Lib.hid hlf
                replace hcv := Lib.hid hcv
                replace hmt := Lib.hid hmt
                have hnb : ((N - b : Nat) : Int) = (N : Int) - (b : Int) := by omega
                replace hnb := Lib.hid hnb
                clear htc
                go_wp2_with fail
                refine hlf.out.mono ?_; rintro e w1 ⟨rfl, n1, rfl⟩
                have hP1 := hP.drewN n1
                have hg1 := grown_drewN hg n1
                have hall := all_blocks v hv.out _ hP1
                rw [hcv.out, hmt.out, hnb.out] at hall
                replace hall := Lib.hid hall
                go_wp2_with fail
                refine hall.out.mono ?_; rintro e w2 ⟨rfl, hP2, g2⟩
                have hg2 := grown_step hg1 g2 hBw
                have hlf2 := left_ok _ hP2
                rw [List.count_replicate_self] at hlf2
                replace hlf2 := Lib.hid hlf2
                go_wp2_with fail
                refine hlf2.out.mono ?_; rintro e w3 ⟨rfl, n3, rfl⟩
                have hP3 := hP2.drewN n3
                have hg3 := grown_drewN hg2 n3
                go_wp2_with fail
                go_roundw
                case rel => exact ⟨t + 1, by omega, by go_num, hP3, hg3⟩
                case measure => simp [intOf]; omega
      · go_wp2_with fail
        go_ret
        exact ⟨rfl, hg⟩
end Go.Proofs.Ythdcogndmpeepaa
