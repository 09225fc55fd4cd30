/- LaddersLast: whatever was set and cleared, a rank has somebody just if it was set last. -/
import Derived.Test.YtpklpfpngjlokaaLadO
import Derived.Test.YtpklpfpngjlokaaLadM2
namespace Go.Proofs.Ytpklpfpngjlokaa
open Go.RowKit Go.Shelf Tk Tk.Lad
set_option linter.unusedVariables false
set_option linter.unusedSimpArgs false

def bitV (l : Nat) (i : Nat) : Value := .bool (l.testBit i)
set_option maxRecDepth 100000 in
set_option maxHeartbeats 4000000 in
theorem laddersLast_walk (A0 : Option Addr) (c0 : Nat) (xs : List Int) (hl0 : xs.length ≤ c0) (w : World) (hs0 : SlA w 0 w.heap.size .u8 A0 xs) (hf : ∀ x ∈ xs, (Lit.int .u8 x).wf = true) (hb : xs.length * 1 ≤ 140737488351232) :
    Calls Try.prog 9 #[.slice A0 xs.length c0] w fun e w' => e = .returned (.bool true) ∧ w.grownBy w' none := by
  have hfit : Hid (∀ k, k < xs.length → 0 ≤ gd xs k ∧ gd xs k < 256) := fun k hk => wf_u8 (hf _ (gd_mem hk))
  clear hf
  by_cases hlen : 100 < xs.length
  · go_enter Try.func9, Try.ntmps9
    go_wp2_with fail
    refine (alive_any _).mono ?_; rintro e wd ⟨rfl, hg⟩
    go_wp2_with fail
    refine (alive_any _).mono ?_; rintro e we ⟨rfl, hg2⟩
    go_wp2_with fail
    go_ret
    exact ⟨rfl, grown_trans hg hg2⟩
  · have hle : xs.length ≤ 100 := by omega
    clear hlen
    go_enter Try.func9, Try.ntmps9
    go_wp2_with fail
    refine (alive_any _).mono ?_; rintro e wd ⟨rfl, hg⟩
    have hs1 := hs0.kept hg (by simp)
    clear hs0
    go_wp2_with fail
    have hA := Arr.new wd (Array.replicate 32 (.bool false)) 37 32 (bitV 0) (by simp) (fun i hi => by simp [bitV, hi])
    have hgB := World.grownBy_alloc wd (.cells (Array.replicate 32 (.bool false)) 37) none
    have hlt := Nat.lt_succ_self wd.heap.size
    rw [show (Array.replicate 32 (Value.bool false)) = #[Value.bool false, Value.bool false, Value.bool false, Value.bool false, Value.bool false, Value.bool false, Value.bool false, Value.bool false, Value.bool false, Value.bool false, Value.bool false, Value.bool false, Value.bool false, Value.bool false, Value.bool false, Value.bool false, Value.bool false, Value.bool false, Value.bool false, Value.bool false, Value.bool false, Value.bool false, Value.bool false, Value.bool false, Value.bool false, Value.bool false, Value.bool false, Value.bool false, Value.bool false, Value.bool false, Value.bool false, Value.bool false] from rfl] at hA hgB
    obtain ⟨wB, hwB⟩ : ∃ wB, wd.alloc (.cells #[Value.bool false, Value.bool false, Value.bool false, Value.bool false, Value.bool false, Value.bool false, Value.bool false, Value.bool false, Value.bool false, Value.bool false, Value.bool false, Value.bool false, Value.bool false, Value.bool false, Value.bool false, Value.bool false, Value.bool false, Value.bool false, Value.bool false, Value.bool false, Value.bool false, Value.bool false, Value.bool false, Value.bool false, Value.bool false, Value.bool false, Value.bool false, Value.bool false, Value.bool false, Value.bool false, Value.bool false, Value.bool false] 37) = wB := ⟨_, rfl⟩
    rw [hwB] at hA hgB ⊢
    clear hwB
    have hs2 := hs1.kept hgB (by simp)
    have hg2 := grown_trans hg hgB
    have hw := hg.size
    clear hs1 hgB
    generalize hBn : wd.heap.size = B at *
    clear hBn
    go_loopw [3, 5, 6] (fun l i u wr => ∃ k m : Nat, k ≤ xs.length ∧ i = .int .i64 k ∧ l = .int .u32 m ∧ m < 4294967296 ∧ Arr wr B 32 (bitV m) ∧ wB.grownBy wr (some B)) (fun _ i _ _ => xs.length - (intOf i).toNat)
    case atStart => exact ⟨0, 0, Nat.zero_le _, rfl, rfl, by decide, hA, grown_refl _ _⟩
    case round =>
      obtain ⟨k, m, hk, rfl, rfl, hm, hAr, hgr⟩ := hrel
      have hs3 := hs2.kept hgr (by intro b hb'; cases hb'; right; omega)
      by_cases hlt : k < xs.length
      · obtain ⟨b, o, rfl, hc⟩ := hs3.at hlt
        obtain ⟨f1, f2⟩ := hfit.out k hlt
        clear hs3
        generalize gd xs k = x at *
        obtain ⟨r, hr⟩ : ∃ r : Nat, x % 32 = r := Int.eq_ofNat_of_zero_le (by omega)
        have hr32 : r < 32 := by omega
        have hcell := hAr.cell hr32
        have hfr := hAr.frozen r
        have hlt2 := act_lt hm x
        have hset : Hid (∀ i, i < 32 → (fun i => if i = r then Value.bool (decide (x < 128)) else bitV m i) i = bitV (actN m x) i) := fun i hi => by
          simp only [bitV, testBit_act, hr]
          by_cases e : i = r
          · subst e; simp
          · have : ¬ ((i : Int) = (r : Int)) := by omega
            simp [e, this]
        have hset2 := hAr.set hr32 (.bool (decide (x < 128)))
        have hg3 := grownBy_setCell wr B r (.bool (decide (x < 128)))
        unfold bitV at hcell
        by_cases hx : x < 128
        · have ha : Hid (setN m (r : Int) = actN m x) := by show _ = _; unfold actN; rw [if_pos hx, hr]
          rw [decide_eq_true hx] at hset hset2 hg3
          have hd : decide (x < 128) = true := decide_eq_true hx
          go_wp2_with fail
          refine (set_any m hm _ _).mono ?_; rw [ha.out]; rintro e w' ⟨rfl, rfl⟩
          go_wp2_with fail
          go_roundw
          case rel => exact ⟨k + 1, actN m x, by omega, by go_num, rfl, hlt2, hset2.congr hset.out, grown_trans hgr hg3⟩
          case measure => simp [intOf]; omega
        · have ha : Hid (clrN m (r : Int) = actN m x) := by show _ = _; unfold actN; rw [if_neg hx, hr]
          rw [decide_eq_false hx] at hset hset2 hg3
          have hd : decide (x < 128) = false := decide_eq_false hx
          go_wp2_with fail
          refine (clear_any m hm _ _).mono ?_; rw [ha.out]; rintro e w' ⟨rfl, rfl⟩
          go_wp2_with fail
          go_roundw
          case rel => exact ⟨k + 1, actN m x, by omega, by go_num, rfl, hlt2, hset2.congr hset.out, grown_trans hgr hg3⟩
          case measure => simp [intOf]; omega
      · have hgA := grown_trans (grown_weaken (some B) hg2) hgr
        clear hs3
        go_wp2_with fail
        refine (list_any m hm _).mono ?_; rintro e wa ⟨A, ca, rfl, ha, hsa, hga⟩
        have hAr2 := hAr.kept hga (by simp)
        have hgC : w.grownBy wa none := grown_own (n := w.heap.size) (((below_of_grown hg2).grown hgr hg2.size (by intro b hb'; cases hb'; omega)).trans ((below_of_grown hga).mono (Nat.le_trans hgA.size (Nat.le_refl _)))) (Nat.le_refl _)
        have hlen := ranksI_len m
        have hcnt : Hid (cnt m 32 = (ranksI m).length) := by show _ = _; rw [cnt_len]; simp [ranksI, ranks]
        clear hAr hgr hgA hga
        go_wp2_with fail
        go_loopw [8, 9] (fun n i wr => ∃ k c : Nat, k ≤ 32 ∧ i = .int .i64 k ∧ n = .int .i64 c ∧ c ≤ k ∧ Hid (c = cnt m k) ∧ Drawn wa wr) (fun _ i _ => 32 - (intOf i).toNat)
        case atStart => exact ⟨0, 0, Nat.zero_le _, rfl, rfl, Nat.le_refl _, rfl, Drawn.refl _⟩
        case round =>
          obtain ⟨k, c, hk, rfl, rfl, hck, hcn, hdr⟩ := hrel
          have hsa2 := hdr.sl hsa
          by_cases hlt : k < 32
          · have hcell := (hdr.arr hAr2).cell hlt
            unfold bitV at hcell
            have hin : Hid (decide ((k : Int) ∈ ranksI m) = m.testBit k) := by
              show _ = _
              rw [Bool.eq_iff_iff, decide_eq_true_eq, mem_ranksI hm]; simp
            have hcs : cnt m (k + 1) = cnt m k + (if m.testBit k then 1 else 0) := rfl
            have hil : (k : Int) < 32 := by omega
            cases hb2 : m.testBit k with
            | true =>
              rw [hb2] at hcell hin hcs
              have hcs' : Hid (c + 1 = cnt m (k + 1)) := by show _ = _; rw [hcs, ← hcn.out]; simp
              clear hb2 hcs
              go_wp2_with fail
              go_quiet ((go_at_call 15; exact quiet_same (has_is _ _ _ _ _ _ _ _ ha (ranksI_len _) hsa2 hin.out)))
              go_wp2_with fail
              go_roundw
              case rel => exact ⟨k + 1, c + 1, by omega, by go_num, by go_num, by omega, hcs', hdr.step _⟩
              case measure => simp [intOf]; omega
            | false =>
              rw [hb2] at hcell hin hcs
              have hcs' : Hid (c = cnt m (k + 1)) := by show _ = _; rw [hcs, ← hcn.out]; simp
              clear hb2 hcs
              go_wp2_with fail
              go_quiet ((go_at_call 15; exact quiet_same (has_is _ _ _ _ _ _ _ _ ha (ranksI_len _) hsa2 hin.out)))
              go_wp2_with fail
              go_roundw
              case rel => exact ⟨k + 1, c, by omega, by go_num, rfl, by omega, hcs', hdr.step _⟩
              case measure => simp [intOf]; omega
          · have he : (((ranksI m).length : Int) == (c : Int)) = true := by
              have h1 := hcn.out
              obtain rfl : k = 32 := by omega
              rw [hcnt.out] at h1
              simp [h1]
            go_wp2_with fail
            go_ret
            exact ⟨rfl, hdr.grown hgC⟩
end Go.Proofs.Ytpklpfpngjlokaa
