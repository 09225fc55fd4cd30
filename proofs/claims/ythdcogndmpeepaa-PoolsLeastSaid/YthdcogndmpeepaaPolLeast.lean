/- PoolsLeast. -/
import Derived.Test.YthdcogndmpeepaaPolA
import Derived.WalkSmall
namespace Go.Proofs.Ythdcogndmpeepaa
open Go.RowKit Go.Shelf Tk
set_option linter.unusedVariables false
set_option linter.unusedSimpArgs false

/-- The list of N numbers, told by place. -/
def mk (N : Nat) (f : Nat → Int) : List Int := (List.range N).map f
theorem mk_len (N : Nat) (f : Nat → Int) : (mk N f).length = N := by simp [mk]
theorem gd_mk {N : Nat} {f : Nat → Int} {i : Nat} (h : i < N) : gd (mk N f) i = f i := by
  rw [gd_lt (by rw [mk_len]; exact h)]; simp [mk]
theorem mk_set {N : Nat} {f g : Nat → Int} {k : Nat} {v : Int} (hk : k < N) (hv : g k = v) (h : ∀ i, i < N → i ≠ k → g i = f i) : (mk N f).set k v = mk N g := by
  apply ext_gd (by rw [List.length_set, mk_len, mk_len])
  intro i hi
  rw [List.length_set, mk_len] at hi
  rw [gd_set (by rw [mk_len]; exact hk), gd_mk hi, gd_mk hi]
  by_cases e : i = k
  · subst e; rw [if_pos rfl, hv]
  · rw [if_neg e, h i hi e]
theorem mk_congr {N : Nat} {f g : Nat → Int} (h : ∀ i, i < N → g i = f i) : mk N f = mk N g := by
  apply ext_gd (by rw [mk_len, mk_len])
  intro i hi
  rw [mk_len] at hi
  rw [gd_mk hi, gd_mk hi, h i hi]
theorem mk_rep (N : Nat) : List.replicate N (0 : Int) = mk N (fun _ => 0) := by
  apply ext_gd (by rw [mk_len, List.length_replicate])
  intro i hi
  rw [List.length_replicate] at hi
  rw [gd_rep, gd_mk hi]
theorem mk_count {N : Nat} {f : Nat → Int} (h : ∀ i, i < N → f i ≠ 0) : (mk N f).count 0 = 0 := by
  rw [List.count_eq_zero]
  intro hm
  simp only [mk, List.mem_map, List.mem_range] at hm
  obtain ⟨i, hi, he⟩ := hm
  exact h i hi he
/-- Some are given out already. -/
def fA (k i : Nat) : Int := if i < k then 9 else 0
/-- Those from k on whose bits are 1 were taken back. -/
def fB (b k i : Nat) : Int := if k ≤ i ∧ b.testBit i = true then 0 else 9
/-- Those below k of them are given out again. -/
def fC (b k i : Nat) : Int := if b.testBit i = true then (if i < k then 8 else 0) else 9
theorem bit_of (b k : Nat) (hb : (b : Int) ≤ 18446744073709551615) : bits BinOp.and IntKind.u64 ((b : Int) / 2 ^ k) 1 = if b.testBit k = true then 1 else 0 := by
  have e : ((b : Int) / 2 ^ k) = ((b / 2 ^ k : Nat) : Int) := by simp
  have hle : b / 2 ^ k ≤ b := Nat.div_le_self _ _
  rw [e, Nat.testBit_eq_decide_div_mod_eq]
  generalize b / 2 ^ k = q at *
  rw [and_one_u64 _ (by omega) (by omega)]
  by_cases h : q % 2 = 1
  · simp only [h, decide_true, if_true]; omega
  · simp only [h, decide_false, if_false, Bool.false_eq_true]; omega
set_option maxRecDepth 100000 in
set_option maxHeartbeats 8000000 in
theorem poolsLeast_walk (m : Int) (wm : (Lit.int .u8 m).wf = true) (bk : Int) (wb : (Lit.int .u64 bk).wf = true) (w : World) :
    Calls Try.prog 6 #[.int .u8 m, .int .u64 bk] w fun e w' => e = .returned (.bool true) ∧ w.grownBy w' none := by
  obtain ⟨m1, m2⟩ := wf_u8 wm
  obtain ⟨b1, b2⟩ := wf_u64 wb
  clear wm wb
  obtain ⟨b, rfl⟩ := Int.eq_ofNat_of_zero_le b1
  clear b1
  obtain ⟨N, hN, hN1, hN2⟩ : ∃ N : Nat, (1 + m % 64) = (N : Int) ∧ 1 ≤ N ∧ N ≤ 64 := ⟨(m % 64).toNat + 1, by omega, by omega, by omega⟩
  replace hN := Lib.hid hN
  go_enter Try.func6, Try.ntmps6
  go_wp2_with fail
  refine (of_ok m m1 m2 N hN.out _).mono ?_; rintro e wa ⟨rfl, hP, hg, hsz⟩
  rw [hN.out]
  obtain ⟨B, hB⟩ : ∃ B, w.heap.size = B := ⟨_, rfl⟩
  have hBw : w.heap.size ≤ B := by omega
  rw [hB] at hP ⊢
  rw [mk_rep] at hP
  clear hB hsz
  go_wp2_with fail
  go_loopw [7, 8, 9] (fun i _ _ wr => ∃ k : Nat, k ≤ N ∧ i = .int .i64 k ∧ Pl wr B (mk N (fA k)) ∧ w.grownBy wr none) (fun i _ _ _ => N - (intOf i).toNat)
  case atStart => exact ⟨0, Nat.zero_le _, rfl, by rw [mk_congr (g := fun _ => 0) (fun i _ => by simp [fA])]; exact hP, hg⟩
  case round =>
    obtain ⟨k, hk, rfl, hP, hg⟩ := hrel
    by_cases hlt : k < N
    · have hfs : Hid ((mk N (fA k)).set k 9 = mk N (fA (k + 1))) := mk_set hlt (by simp [fA]) (fun i _ hi => by
        have : i < k + 1 ↔ i < k := by omega
        simp only [fA, this])
      go_wp2_with fail
      refine (alloc_at 9 (by decide) k (by rw [mk_len]; exact hlt) (by rw [gd_mk hlt]; simp [fA]) (fun i hi => by rw [gd_mk (by omega)]; simp [fA, hi]) _ hP).mono ?_; rintro e w1 ⟨rfl, hP1, g1⟩
      have hg1 := grown_step hg g1 hBw
      go_wp2_with fail
      go_roundw
      case rel => exact ⟨k + 1, by omega, by go_num, by rw [← hfs.out]; exact hP1, hg1⟩
      case measure => simp [intOf] <;> omega
    · obtain rfl : N = k := by omega
      rw [mk_congr (g := fB b N) (fun i hi => by simp [fA, fB, hi]; omega)] at hP
      clear hlt hk
      go_wp2_with fail
      go_loopw [10] (fun i wr => ∃ z : Int, -1 ≤ z ∧ z < N ∧ i = .int .i64 z ∧ Pl wr B (mk N (fB b (z + 1).toNat)) ∧ w.grownBy wr none) (fun i _ => (intOf i + 1).toNat)
      case atStart => exact ⟨(N : Int) - 1, by omega, by omega, rfl, by rw [show ((N : Int) - 1 + 1).toNat = N by omega]; exact hP, hg⟩
      case round =>
        obtain ⟨z, hz1, hz2, rfl, hP, hg⟩ := hrel
        by_cases hz : 0 ≤ z
        · obtain ⟨k, rfl⟩ := Int.eq_ofNat_of_zero_le hz
          rw [show ((k : Int) + 1).toNat = k + 1 by omega] at hP
          have hk64 : k < 64 := by omega
          clear hz1 hz
          have hb := bit_of b k b2
          by_cases hbk : b.testBit k = true
          · rw [if_pos hbk] at hb
            have hfs : Hid ((mk N (fB b (k + 1))).set k 0 = mk N (fB b k)) := mk_set (by omega) (by simp [fB, hbk]) (fun i _ hi => by
              have : k ≤ i ↔ k + 1 ≤ i := by omega
              simp only [fB, this])
            have h9 : Hid (gd (mk N (fB b (k + 1))) k = 9) := by show _ = _; rw [gd_mk (by omega)]; unfold fB; rw [if_neg (fun h => by omega)]
            replace hbk := Lib.hid hbk
            go_wp2_with fail
            refine (free_is 9 _ (by decide) k rfl (by rw [mk_len]; omega) h9.out _ hP).mono ?_; rintro e w1 ⟨rfl, hP1, g1⟩
            have hg1 := grown_step hg g1 hBw
            go_wp2_with fail
            go_roundw
            case rel => exact ⟨(k : Int) - 1, by omega, by omega, by go_num, by rw [show ((k : Int) - 1 + 1).toNat = k by omega, ← hfs.out]; exact hP1, hg1⟩
            case measure => simp [intOf] <;> omega
          · rw [if_neg hbk] at hb
            have hfs : Hid (mk N (fB b (k + 1)) = mk N (fB b k)) := mk_congr (fun i _ => by
              unfold fB
              by_cases e : i = k
              · subst e; rw [if_neg (fun h => hbk h.2), if_neg (fun h => hbk h.2)]
              · have : k ≤ i ↔ k + 1 ≤ i := by omega
                simp only [this])
            replace hbk := Lib.hid hbk
            go_wp2_with fail
            go_roundw
            case rel => exact ⟨(k : Int) - 1, by omega, by omega, by go_num, by rw [show ((k : Int) - 1 + 1).toNat = k by omega, ← hfs.out]; exact hP, hg⟩
            case measure => simp [intOf] <;> omega
        · obtain rfl : z = -1 := by omega
          rw [show ((-1 : Int) + 1).toNat = 0 from rfl, mk_congr (g := fC b 0) (fun i hi => by simp [fB, fC])] at hP
          go_wp2_with fail
          go_loopw [11] (fun i wr => ∃ k : Nat, k ≤ N ∧ i = .int .i64 k ∧ Pl wr B (mk N (fC b k)) ∧ w.grownBy wr none) (fun i _ => N - (intOf i).toNat)
          case atStart => exact ⟨0, Nat.zero_le _, rfl, hP, hg⟩
          case round =>
            obtain ⟨k, hk, rfl, hP, hg⟩ := hrel
            by_cases hlt : k < N
            · have hk64 : k < 64 := by omega
              have hb := bit_of b k b2
              by_cases hbk : b.testBit k = true
              · rw [if_pos hbk] at hb
                have hfs : Hid ((mk N (fC b k)).set k 8 = mk N (fC b (k + 1))) := mk_set hlt (by simp [fC, hbk]) (fun i _ hi => by
                  have : i < k + 1 ↔ i < k := by omega
                  simp only [fC, this])
                have h0 : Hid (gd (mk N (fC b k)) k = 0) := by show _ = _; rw [gd_mk hlt]; simp [fC, hbk]
                have hm : Hid (∀ i, i < k → gd (mk N (fC b k)) i ≠ 0) := fun i hi => by
                  rw [gd_mk (by omega)]; unfold fC
                  by_cases hbi : b.testBit i = true
                  · rw [if_pos hbi, if_pos hi]; decide
                  · rw [if_neg hbi]; decide
                replace hbk := Lib.hid hbk
                go_wp2_with fail
                refine (alloc_at 8 (by decide) k (by rw [mk_len]; exact hlt) h0.out hm.out _ hP).mono ?_; rintro e w1 ⟨rfl, hP1, g1⟩
                have hg1 := grown_step hg g1 hBw
                go_wp2_with fail
                go_roundw
                case rel => exact ⟨k + 1, by omega, by go_num, by rw [← hfs.out]; exact hP1, hg1⟩
                case measure => simp [intOf] <;> omega
              · rw [if_neg hbk] at hb
                have hfs : Hid (mk N (fC b k) = mk N (fC b (k + 1))) := mk_congr (fun i _ => by
                  unfold fC
                  by_cases e : i = k
                  · subst e; rw [if_neg hbk, if_neg hbk]
                  · have : i < k + 1 ↔ i < k := by omega
                    simp only [this])
                replace hbk := Lib.hid hbk
                go_wp2_with fail
                go_roundw
                case rel => exact ⟨k + 1, by omega, by go_num, by rw [← hfs.out]; exact hP, hg⟩
                case measure => simp [intOf] <;> omega
            · obtain rfl : N = k := by omega
              have hnz : Hid (∀ i, i < N → fC b N i ≠ 0) := fun i hi => by
                unfold fC
                by_cases hbi : b.testBit i = true
                · rw [if_pos hbi, if_pos hi]; decide
                · rw [if_neg hbi]; decide
              have hf : Hid (∀ i, i < (mk N (fC b N)).length → gd (mk N (fC b N)) i ≠ 0) := fun i hi => by
                rw [mk_len] at hi; rw [gd_mk hi]; exact hnz.out i hi
              go_wp2_with fail
              refine (alloc_full 8 (by decide) hf.out _ hP).mono ?_; rintro e w1 ⟨rfl, n1, rfl⟩
              have hP1 := hP.drewN n1
              have hg1 := grown_drewN hg n1
              go_wp2_with fail
              refine (alive_any _).mono ?_; rintro e w2 ⟨rfl, g2⟩
              have hP2 := hP1.keep g2
              have hg2 := grown_trans hg1 g2
              have hlf := left_ok _ hP2
              rw [mk_count hnz.out] at hlf
              replace hlf := Lib.hid hlf
              go_wp2_with fail
              refine hlf.out.mono ?_; rintro e w3 ⟨rfl, n3, rfl⟩
              go_wp2_with fail
              go_ret
              exact ⟨rfl, grown_drewN hg2 n3⟩
end Go.Proofs.Ythdcogndmpeepaa
