/- timekeeperlaw01.TwinBytes: the same bytes, with room behind them. -/
import Derived.Test.YtabkkeeedlnmnaaDoorRows
import Derived.Test.YtabkkeeedlnmnaaDoorBlk
namespace Go.Proofs.YtabkkeeedlnmnaaDoor
open Go.RowKit Go.Shelf Tk
set_option linter.unusedVariables false
set_option linter.unusedSimpArgs false

theorem infoTwC : (Tryd.prog.info? 5).map (fun i => (i.zero, i.size, i.bytes)) = some (some (.int .u8 0), 1, 1) := by kernel_rfl
theorem take_snoc {xs : List Int} {k : Nat} (h : k < xs.length) : xs.take k ++ [gd xs k] = xs.take (k + 1) := by
  rw [gd_lt h, List.take_append_getElem h]
set_option maxRecDepth 100000 in
set_option maxHeartbeats 2000000 in
theorem twinBytes_any (A : Option Addr) (c lo hi : Nat) (xs : List Int) (w : World) (hl : xs.length ≤ c) (hm : xs.length ≤ 1000000) (hs : SlA w lo hi .u8 A xs) :
    Calls Tryd.prog 27 #[.slice A xs.length c] w fun e w' => ∃ g c', e = .returned (.slice (some ⟨g, 0, none⟩) xs.length c') ∧ xs.length < c' ∧ c' ≤ maxLen ∧ Mine w' w.heap.size 5 .u8 (.slice (some ⟨g, 0, none⟩) (xs.length + 1) c') (xs ++ [77]) ∧ w.grownBy w' none := by
  obtain ⟨i0, hi, hz0, hz1, hz2⟩ := info_parts infoTwC
  have hsK := Lib.hid (fun wr (h : w.grownBy wr none) => hs.kept h (by simp))
  go_enter Tryd.func27, Tryd.ntmps27
  go_wp2_with (refine wpList_make_own w rfl _ _ 61 rfl w.heap.size 5 i0 (.int .u8 0) 1 Tryd.underlying61 hi hz0 hz1 .i64 .i64 _ (xs.length + 1) rfl rfl (by push_cast; rfl) (by rw [hz2]; omega) (by unfold maxLen; omega) (Nat.le_refl _) ?_; intro w1 hown hgrow)
  have hM0 : Mine w1 w.heap.size 5 .u8 (.slice (some ⟨w.heap.size, 0, none⟩) 0 (xs.length + 1)) (xs.take 0) := by unfold Mine; simpa using hown
  go_loopw [3, 4] (fun v i wr => ∃ k : Nat, k ≤ xs.length ∧ i = .int .i64 k ∧ Mine wr w.heap.size 5 .u8 v (xs.take k) ∧ w.grownBy wr none) (fun _ i _ => xs.length - (intOf i).toNat)
  case atStart => exact ⟨0, Nat.zero_le _, rfl, hM0, hgrow⟩
  case round =>
    obtain ⟨k, hk, rfl, hM, hg⟩ := hrel
    clear hM0 hown hgrow
    have htl : (xs.take k).length = k := by simp; omega
    have hws := hg.size
    obtain ⟨A1, c1, rfl, hc1, hc2, -⟩ := hM.form
    rw [htl] at hM hc1 ⊢
    by_cases hlt : k < xs.length
    · obtain ⟨b, o, rfl, hc⟩ := (hsK.out _ hg).at hlt
      have hts := Lib.hid (take_snoc hlt)
      have hrow : wr.ownsRow w.heap.size 5 1 (.slice A1 k c1) k ((xs.take k).map (Value.int .u8)) := by
        have := hM; unfold Mine at this; rwa [htl] at this
      have hrow := Lib.hid hrow
      have hgA := World.grownBy_alloc wr (.cells #[.int .u8 (gd xs k)] 5) none
      generalize gd xs k = x at *
      go_wp2_with (at_builtin; refine wpList_append_own _ rfl _ _ 61 rfl w.heap.size 5 i0 (.int .u8 0) 1 1 Tryd.underlying61 hi hz0 hz1 hz2 rfl (by decide) (.slice A1 k c1) k ((xs.take k).map (Value.int .u8)) rfl (World.ownsRow.alloc hrow.out _) ⟨wr.heap.size, 0, none⟩ 1 1 [.int .u8 x] rfl rfl (cell_one_new _ _ _) (by simp [Value.oneCell']) (by unfold maxLen; omega) (by omega) (by simp; omega) ?_; intro v' w5 hown hgrow _)
      go_roundw
      case rel =>
        refine ⟨k + 1, by omega, by go_num, ?_, (hM.keep hgA).far (grown_alloc hg _) (Nat.le_refl _) hgrow⟩
        rw [← hts.out]
        have hown' : w5.ownsRow w.heap.size 5 1 v' ((xs.take k).length + 1) ((xs.take k).map (Value.int .u8) ++ [.int .u8 x]) := by rw [htl]; exact hown
        exact Mine.add hown'
      case measure => simp [intOf]; omega
    · obtain rfl : k = xs.length := by omega
      have hrow : wr.ownsRow w.heap.size 5 1 (.slice A1 xs.length c1) xs.length (xs.map (Value.int .u8)) := by
        have := hM; unfold Mine at this; rwa [List.take_length] at this
      have hrow := Lib.hid hrow
      have hgA := World.grownBy_alloc wr (.cells #[.int .u8 77] 5) none
      go_wp2_with (at_builtin; refine wpList_append_own _ rfl _ _ 61 rfl w.heap.size 5 i0 (.int .u8 0) 1 1 Tryd.underlying61 hi hz0 hz1 hz2 rfl (by decide) (.slice A1 xs.length c1) xs.length (xs.map (Value.int .u8)) rfl (World.ownsRow.alloc hrow.out _) ⟨wr.heap.size, 0, none⟩ 1 1 [.int .u8 77] rfl rfl (cell_one_new _ _ _) (by simp [Value.oneCell']) (by unfold maxLen; omega) (by omega) (by simp; omega) ?_; intro v' w5 hown hgrow _; obtain ⟨g, c5, rfl, h51, h52, hM5, hgb⟩ := (Mine.add hown).snoc)
      go_ret
      exact ⟨g, c5, rfl, by omega, h52, hM5, (hM.keep hgA).far (grown_alloc hg _) (Nat.le_refl _) hgrow⟩

/-- timekeeperlaw01.LeftBytes: such a copy is what it was made of, its mark too. -/
theorem _root_.Tk.Mine.take {w : World} {base g c : Nat} {xs : List Int} {x : Int} {e : TypeId} {k : IntKind} (h : Mine w base e k (.slice (some ⟨g, 0, none⟩) (xs.length + 1) c) (xs ++ [x])) :
    Mine w base e k (.slice (some ⟨g, 0, none⟩) xs.length c) xs := by
  have h6 := h.cut (m := xs.length) (Nat.le_succ _)
  rwa [List.take_left' rfl] at h6
set_option maxRecDepth 100000 in
set_option maxHeartbeats 2000000 in
theorem leftBytes_any (g c d base lo hi : Nat) (A : Option Addr) (xs : List Int) (w : World) (hc : xs.length < c) (hl : xs.length ≤ d) (hm : xs.length ≤ 1000000)
    (hM : Mine w base 5 .u8 (.slice (some ⟨g, 0, none⟩) (xs.length + 1) c) (xs ++ [77])) (hs : SlA w lo hi .u8 A xs) :
    Calls Tryd.prog 30 #[.slice (some ⟨g, 0, none⟩) xs.length c, .slice A xs.length d] w fun e w' => e = .returned (.bool true) ∧ ∃ n, w.drewN n = w' := by
  have hmark : w.cell? ⟨g, xs.length, none⟩ = some (.int .u8 77) := by
    have := hM.cell (i := xs.length) (by simp)
    rw [this]; simp [gd]
  have hcell : Hid (∀ i, i < xs.length → w.cell? ⟨g, i, none⟩ = some (.int .u8 (gd xs i))) := fun i hi => hM.take.cell hi
  have h1 : ¬ c ≤ xs.length := by omega
  have h2 : decide ((c : Int) ≤ (xs.length : Int)) = false := by simp; omega
  clear hM
  obtain ⟨N, hN⟩ : ∃ N, xs.length = N := ⟨_, rfl⟩
  rw [hN] at hc hl hm hmark h1 h2 ⊢
  replace hN := Lib.hid hN
  go_enter Tryd.func30, Tryd.ntmps30
  go_wp2
  go_loopw [5] (fun i wr => ∃ (k n : Nat), k ≤ N ∧ i = .int .i64 k ∧ wr = w.drewN n) (fun i _ => N - (intOf i).toNat)
  case atStart => exact ⟨0, 0, Nat.zero_le _, rfl, rfl⟩
  case round =>
    obtain ⟨k, n, hk, rfl, rfl⟩ := hrel
    by_cases hlt : k < N
    · obtain ⟨b, o, rfl, hc1⟩ := hs.at (i := k) (by rw [hN.out]; exact hlt)
      have hc2 := hcell.out k (by rw [hN.out]; exact hlt)
      clear hs
      generalize gd xs k = x at *
      go_wp2
      go_quiet (fail)
      go_wp2
      go_roundw
      case rel => exact ⟨k + 1, _, by omega, by go_num, rfl⟩
      case measure => simp [intOf]; omega
    · obtain rfl : k = N := by omega
      clear hs
      go_wp2
      go_ret
      exact ⟨rfl, n, rfl⟩
end Go.Proofs.YtabkkeeedlnmnaaDoor
