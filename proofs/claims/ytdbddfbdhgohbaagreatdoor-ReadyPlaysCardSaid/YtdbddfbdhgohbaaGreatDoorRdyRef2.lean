/- timekeeperref15: New, Rank, may, First, List. -/
import Derived.Test.YtdbddfbdhgohbaaGreatDoorRdyRef
import Derived.Test.YtdbddfbdhgohbaaGreatDoorRdy2
namespace Go.Proofs.YtdbddfbdhgohbaaGreatDoor
open Go.RowKit Go.Shelf Tk Tk.Rdy
set_option linter.unusedVariables false
set_option linter.unusedSimpArgs false
namespace RefD
variable {w w' : World} {R : Nat} {v : Nat → Value} {ls : Nat → List Int} {rk : Nat → Nat} {has : Nat}
theorem newr_ok (w : World) : Calls Tryz.prog 6 #[] w fun e w' => e = .returned (.pointer (some ⟨w.heap.size, 0, none⟩)) ∧ RQ w' w.heap.size (fun _ => .slice none 0 0) (fun _ => []) ∧ w.grownBy w' none ∧ w'.heap.size = w.heap.size + 1 := by
  have hA := Arr.new w (List.replicate 32 (.slice none 0 0)).toArray 63 32 (fun _ => .slice none 0 0) rfl (fun i hi => by
    rw [List.getElem?_toArray, List.getElem?_replicate, if_pos hi])
  have hg := World.grownBy_alloc w (.cells (List.replicate 32 (.slice none 0 0)).toArray 63) none
  have hz := zeroR
  go_enter Tryz.func6, Tryz.ntmps6
  go_wp2_with fail
  go_ret
  exact ⟨rfl, ⟨hA, fun r hr => Mine.nil _ _ _ _, fun r hr => by simp [Value.ownBlock]⟩, hg, by simp⟩
set_option maxRecDepth 100000 in
set_option maxHeartbeats 2000000 in
theorem rank_in (h : RQ w R v ls) (hlen : ∀ r, r < 32 → (ls r).length ≤ 256) {x : Int} {r : Nat} (hr : r < 32) (hm : x ∈ ls r) (hno : ∀ s, s < r → x ∉ ls s) :
    Calls Tryz.prog 12 #[.pointer (some ⟨R, 0, none⟩), .int .i64 x] w fun e w' => e = .returned (.tuple #[.int .i64 r, .bool true]) ∧ w = w' := by
  have hrow := Lib.hid (fun k n (hk : k < 32) (hn : (ls k).length = n) => h.row hk hn)
  replace hlen := Lib.hid hlen
  replace hm := Lib.hid hm
  replace hno := Lib.hid hno
  clear h
  go_enter Tryz.func12, Tryz.ntmps12
  go_wp2_with fail
  go_loopw [6, 7] (fun i _ wr => ∃ k : Nat, k ≤ r ∧ i = .int .i64 k ∧ wr = w) (fun i _ _ => r - (intOf i).toNat)
  case atStart => exact ⟨0, Nat.zero_le _, rfl, rfl⟩
  case round =>
    obtain ⟨k, hk, rfl, hww⟩ := hrel
    obtain rfl : w = wr := hww.symm
    obtain ⟨n, hn⟩ : ∃ n, (ls k).length = n := ⟨_, rfl⟩
    have hk32 : k < 32 := by omega
    have hk31 : (k : Int) ≤ 31 := by omega
    have hk0 : (0 : Int) ≤ (k : Int) := Int.natCast_nonneg _
    obtain ⟨A, c, -, hc, hcm, hs, q⟩ := hrow.out k n hk32 hn
    have hn256 : n ≤ 256 := by rw [← hn]; exact hlen.out k hk32
    replace hn := Lib.hid hn
    replace hs := Lib.hid hs
    go_wp2_with fail
    go_loopw [7] (fun i wr => ∃ j : Nat, j ≤ n ∧ i = .int .i64 j ∧ Hid (∀ p, p < j → gd (ls k) p ≠ x) ∧ wr = w) (fun i _ => n - (intOf i).toNat)
    case atStart => exact ⟨0, Nat.zero_le _, rfl, fun p hp => absurd hp (Nat.not_lt_zero _), rfl⟩
    case round =>
      obtain ⟨j, hj, rfl, hnj, hww2⟩ := hrel
      obtain rfl : w = wr := hww2.symm
      by_cases hlt : j < n
      · obtain ⟨b, o, hA, qc⟩ := hs.out.at (i := j) (by rw [hn.out]; exact hlt)
        subst hA
        have hjI : (j : Int) < (n : Int) := by omega
        by_cases he : gd (ls k) j = x
        · have hkr : k = r := by
            by_cases e : k < r
            · exact absurd (by rw [← he]; exact gd_mem (by rw [hn.out]; exact hlt)) (hno.out k e)
            · omega
          subst hkr
          rw [he] at qc
          clear he
          go_wp2_with fail
          go_ret2
          exact ⟨rfl, rfl⟩
        · have hnj' : Hid (∀ p, p < j + 1 → gd (ls k) p ≠ x) := fun p hp => by
            by_cases e : p = j
            · subst e; exact he
            · exact hnj.out p (by omega)
          have d1 : (gd (ls k) j == x) = false := by rw [beq_eq_false_iff_ne]; exact he
          generalize gd (ls k) j = y at *
          clear he
          go_wp2_with fail
          go_roundw
          case rel => exact ⟨j + 1, by omega, by go_num, hnj', by first | rfl | trivial⟩
          case measure => exact meas n j hlt
      · obtain rfl : n = j := by omega
        have hkr : k < r := by
          by_cases e : k = r
          · subst e
            obtain ⟨p, hp, e2⟩ := mem_iff_gd.1 hm.out
            exact absurd e2 (hnj.out p (by rw [← hn.out]; exact hp))
          · omega
        go_wp2_with fail
        go_roundw
        case rel => exact ⟨k + 1, by omega, by go_num, by first | rfl | trivial⟩
        case measure => exact meas r k hkr
set_option maxRecDepth 100000 in
set_option maxHeartbeats 2000000 in
theorem rank_no (h : RQ w R v ls) (hlen : ∀ r, r < 32 → (ls r).length ≤ 256) {x : Int} (hno : ∀ s, s < 32 → x ∉ ls s) :
    Calls Tryz.prog 12 #[.pointer (some ⟨R, 0, none⟩), .int .i64 x] w fun e w' => e = .returned (.tuple #[.int .i64 0, .bool false]) ∧ w = w' := by
  have hrow := Lib.hid (fun k n (hk : k < 32) (hn : (ls k).length = n) => h.row hk hn)
  replace hlen := Lib.hid hlen
  replace hno := Lib.hid hno
  clear h
  go_enter Tryz.func12, Tryz.ntmps12
  go_wp2_with fail
  go_loopw [6, 7] (fun i _ wr => ∃ k : Nat, k ≤ 32 ∧ i = .int .i64 k ∧ wr = w) (fun i _ _ => 32 - (intOf i).toNat)
  case atStart => exact ⟨0, Nat.zero_le _, rfl, rfl⟩
  case round =>
    obtain ⟨k, hk, rfl, hww⟩ := hrel
    obtain rfl : w = wr := hww.symm
    by_cases hk32 : k < 32
    · obtain ⟨n, hn⟩ : ∃ n, (ls k).length = n := ⟨_, rfl⟩
      have hk31 : (k : Int) ≤ 31 := by omega
      have hk0 : (0 : Int) ≤ (k : Int) := Int.natCast_nonneg _
      obtain ⟨A, c, -, hc, hcm, hs, q⟩ := hrow.out k n hk32 hn
      have hn256 : n ≤ 256 := by rw [← hn]; exact hlen.out k hk32
      replace hn := Lib.hid hn
      replace hs := Lib.hid hs
      go_wp2_with fail
      go_loopw [7] (fun i wr => ∃ j : Nat, j ≤ n ∧ i = .int .i64 j ∧ wr = w) (fun i _ => n - (intOf i).toNat)
      case atStart => exact ⟨0, Nat.zero_le _, rfl, rfl⟩
      case round =>
        obtain ⟨j, hj, rfl, hww2⟩ := hrel
        obtain rfl : w = wr := hww2.symm
        by_cases hlt : j < n
        · obtain ⟨b, o, hA, qc⟩ := hs.out.at (i := j) (by rw [hn.out]; exact hlt)
          subst hA
          have hjI : (j : Int) < (n : Int) := by omega
          have d1 : (gd (ls k) j == x) = false := by
            rw [beq_eq_false_iff_ne]
            intro he
            exact hno.out k hk32 (by rw [← he]; exact gd_mem (by rw [hn.out]; exact hlt))
          generalize gd (ls k) j = y at *
          go_wp2_with fail
          go_roundw
          case rel => exact ⟨j + 1, by omega, by go_num, by first | rfl | trivial⟩
          case measure => exact meas n j hlt
        · obtain rfl : n = j := by omega
          go_wp2_with fail
          go_roundw
          case rel => exact ⟨k + 1, by omega, by go_num, by first | rfl | trivial⟩
          case measure => exact meas 32 k hk32
    · obtain rfl : k = 32 := by omega
      go_wp2_with fail
      go_ret2
      exact ⟨rfl, rfl⟩
/-- The rank of somebody, and whether they are there. -/
def rankV (rk : Nat → Nat) (x : Int) : Int × Bool := if 0 ≤ x ∧ x ≤ 255 ∧ rk x.toNat ≠ 0 then ((rk x.toNat : Int) - 1, true) else (0, false)
theorem rank_ok (h : RQ w R v ls) (ho : Ok ls rk has) (x : Int) :
    Calls Tryz.prog 12 #[.pointer (some ⟨R, 0, none⟩), .int .i64 x] w fun e w' => e = .returned (.tuple #[.int .i64 (rankV rk x).1, .bool (rankV rk x).2]) ∧ w = w' := by
  by_cases hx : 0 ≤ x ∧ x ≤ 255 ∧ rk x.toNat ≠ 0
  · obtain ⟨u, rfl⟩ := Int.eq_ofNat_of_zero_le hx.1
    have hu : u < 256 := by omega
    have hk : rk u ≠ 0 := by have := hx.2.2; rwa [Int.toNat_natCast] at this
    obtain ⟨h1, h2⟩ := ho.to u hu hk
    have e1 : rankV rk (u : Int) = (((rk u - 1 : Nat) : Int), true) := by
      unfold rankV; rw [if_pos hx, Int.toNat_natCast]
      congr 1; omega
    rw [e1]
    refine rank_in h (fun r hr => ho.len hr) (r := rk u - 1) (by omega) h2 (fun s hs hm => ?_)
    obtain ⟨u', e, -, e2⟩ := ho.mem s (by omega) _ hm
    have : u = u' := by omega
    subst this; omega
  · have e1 : rankV rk x = (0, false) := by unfold rankV; rw [if_neg hx]
    rw [e1]
    refine rank_no h (fun r hr => ho.len hr) (fun s hs hm => hx ?_)
    obtain ⟨u', rfl, e2, e3⟩ := ho.mem s hs _ hm
    exact ⟨by omega, by omega, by rw [Int.toNat_natCast]; omega⟩
theorem may_ok (h : RQ w R v ls) (ho : Ok ls rk has) (x r : Int) :
    Calls Tryz.prog 64 #[.pointer (some ⟨R, 0, none⟩), .int .i64 x, .int .i64 r] w fun e w' => e = .returned (.int .i64 (mayR rk x r)) ∧ w = w' := by
  by_cases hb : x < 0 ∨ 255 < x ∨ r < 0 ∨ 31 < r
  · have hP : Hid (mayR rk x r = 1) := by show _ = _; unfold mayR; rw [if_pos hb]
    have hcs : decide (x < 0) = true ∨ (decide (x < 0) = false ∧ decide (255 < x) = true) ∨ (decide (x < 0) = false ∧ decide (255 < x) = false ∧ decide (r < 0) = true) ∨ (decide (x < 0) = false ∧ decide (255 < x) = false ∧ decide (r < 0) = false ∧ decide (31 < r) = true) := by
      simp only [decide_eq_true_eq, decide_eq_false_iff_not]; omega
    clear hb h ho
    rcases hcs with p1 | ⟨p1, p2⟩ | ⟨p1, p2, p3⟩ | ⟨p1, p2, p3, p4⟩
    all_goals
      go_enter Tryz.func64, Tryz.ntmps64
      go_wp2_with fail
      go_ret
      exact ⟨by rw [hP.out]; rfl, rfl⟩
  · have p1 : decide (x < 0) = false := decide_eq_false (by omega)
    have p2 : decide (255 < x) = false := decide_eq_false (by omega)
    have p3 : decide (r < 0) = false := decide_eq_false (by omega)
    have p4 : decide (31 < r) = false := decide_eq_false (by omega)
    have hrk := Lib.hid (rank_ok h ho x)
    have hV : Hid (mayR rk x r = if (rankV rk x).2 = true then 7 else 0) := by
      show _ = _
      have e1 : mayR rk x r = if rk x.toNat = 0 then 0 else 7 := by unfold mayR; rw [if_neg hb]
      by_cases e : rk x.toNat = 0
      · have e2 : rankV rk x = (0, false) := by unfold rankV; exact if_neg (fun h => h.2.2 e)
        rw [e1, e2, if_pos e]; rfl
      · have e2 : rankV rk x = ((rk x.toNat : Int) - 1, true) := by unfold rankV; exact if_pos ⟨by omega, by omega, e⟩
        rw [e1, e2, if_neg e]; rfl
    generalize (rankV rk x).1 = a at *
    cases hq : (rankV rk x).2 with
    | true =>
      have hP : Hid (mayR rk x r = 7) := by show _ = _; rw [hV.out, hq]; rfl
      rw [hq] at hrk
      clear hb h ho hV hq
      go_enter Tryz.func64, Tryz.ntmps64
      go_wp2_with fail
      refine hrk.out.mono ?_; rintro e w1 ⟨rfl, rfl⟩
      go_wp2_with fail
      go_ret
      exact ⟨by rw [hP.out]; rfl, rfl⟩
    | false =>
      have hP : Hid (mayR rk x r = 0) := by show _ = _; rw [hV.out, hq]; rfl
      rw [hq] at hrk
      clear hb h ho hV hq
      go_enter Tryz.func64, Tryz.ntmps64
      go_wp2_with fail
      refine hrk.out.mono ?_; rintro e w1 ⟨rfl, rfl⟩
      go_wp2_with fail
      go_ret
      exact ⟨by rw [hP.out]; rfl, rfl⟩
set_option maxRecDepth 100000 in
theorem firstr_in (h : RQ w R v ls) (hlen : ∀ r, r < 32 → (ls r).length ≤ 256) {x : Int} {ms : List Int} {r : Nat} (hr : r < 32) (hm : ls r = x :: ms) (hno : ∀ s, r < s → s < 32 → ls s = []) :
    Calls Tryz.prog 10 #[.pointer (some ⟨R, 0, none⟩)] w fun e w' => e = .returned (.tuple #[.int .i64 x, .bool true]) ∧ w = w' := by
  have hrow := Lib.hid (fun k n (hk : k < 32) (hn : (ls k).length = n) => h.row hk hn)
  have hl0 := hlen r hr
  rw [hm] at hl0
  obtain ⟨n, hn⟩ : ∃ n, ms.length = n := ⟨_, rfl⟩
  have hln : (ls r).length = n + 1 := by rw [hm, List.length_cons, hn]
  rw [List.length_cons, hn] at hl0
  replace hm := Lib.hid hm
  replace hno := Lib.hid hno
  replace hln := Lib.hid hln
  clear h hn hlen
  go_enter Tryz.func10, Tryz.ntmps10
  go_wp2_with fail
  go_loopw [4] (fun i wr => ∃ k : Nat, r ≤ k ∧ k ≤ 31 ∧ i = .int .i64 k ∧ wr = w) (fun i _ => (intOf i).toNat)
  case atStart => exact ⟨31, by omega, Nat.le_refl _, rfl, rfl⟩
  case round =>
    obtain ⟨k, hk, hk2, rfl, hww⟩ := hrel
    obtain rfl : w = wr := hww.symm
    have hk0 : (0 : Int) ≤ (k : Int) := Int.natCast_nonneg _
    by_cases hlt : r < k
    · obtain ⟨A, c, -, hc, hcm, hs, q⟩ := hrow.out k 0 (by omega) (by rw [hno.out k hlt (by omega)]; rfl)
      have hk1 : (k : Int) - 1 = ((k - 1 : Nat) : Int) := by omega
      clear hs
      go_wp2_with fail
      go_roundw
      case rel => exact ⟨k - 1, by omega, by omega, by rw [← hk1], by first | rfl | trivial⟩
      case measure => simp [intOf]; omega
    · obtain rfl : r = k := by omega
      obtain ⟨A, c, -, hc, hcm, hs, q⟩ := hrow.out r (n + 1) hr hln.out
      obtain ⟨b, o, hA, qc⟩ := hs.at (i := 0) (by rw [hln.out]; omega)
      subst hA
      have e0 : gd (ls r) 0 = x := by rw [hm.out]; rfl
      rw [e0] at qc
      simp only [Nat.add_zero] at qc
      have h1 : ((n + 1 : Nat) : Int) = (n : Int) + 1 := by push_cast; rfl
      have h2 : (0 : Int) ≤ (n : Int) := Int.natCast_nonneg _
      have h3 : decide ((0 : Int) < ((n + 1 : Nat) : Int)) = true := decide_eq_true (by omega)
      clear hs e0
      go_wp2_with fail
      go_ret2
      exact ⟨rfl, rfl⟩
theorem firstr_no (h : RQ w R v ls) (hno : ∀ s, s < 32 → ls s = []) :
    Calls Tryz.prog 10 #[.pointer (some ⟨R, 0, none⟩)] w fun e w' => e = .returned (.tuple #[.int .i64 0, .bool false]) ∧ w = w' := by
  have hrow := Lib.hid (fun k (hk : k < 32) => h.row hk (n := 0) (by rw [hno k hk]; rfl))
  clear h
  go_enter Tryz.func10, Tryz.ntmps10
  go_wp2_with fail
  go_loopw [4] (fun i wr => ∃ k : Nat, k ≤ 32 ∧ i = .int .i64 ((k : Int) - 1) ∧ wr = w) (fun i _ => ((intOf i) + 1).toNat)
  case atStart => exact ⟨32, Nat.le_refl _, rfl, rfl⟩
  case round =>
    obtain ⟨k, hk, rfl, hww⟩ := hrel
    obtain rfl : w = wr := hww.symm
    by_cases hlt : 0 < k
    · obtain ⟨j, rfl⟩ : ∃ j, k = j + 1 := ⟨k - 1, by omega⟩
      obtain ⟨A, c, -, hc, hcm, hs, q⟩ := hrow.out j (by omega)
      have e1 : (((j + 1 : Nat) : Int) - 1) = (j : Int) := by omega
      rw [e1]
      have hj0 : (0 : Int) ≤ (j : Int) := Int.natCast_nonneg _
      clear hs e1
      go_wp2_with fail
      go_roundw
      case rel => exact ⟨j, by omega, by go_num, by first | rfl | trivial⟩
      case measure => simp [intOf]
    · obtain rfl : k = 0 := by omega
      go_wp2_with fail
      go_ret2
      exact ⟨rfl, rfl⟩
end RefD
end Go.Proofs.YtdbddfbdhgohbaaGreatDoor
