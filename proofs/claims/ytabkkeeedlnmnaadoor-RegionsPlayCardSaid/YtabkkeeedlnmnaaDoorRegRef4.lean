/- timekeeperref04: New. -/
import Derived.Test.YtabkkeeedlnmnaaDoorRegRef3
namespace Go.Proofs.YtabkkeeedlnmnaaDoor
open Go.RowKit Go.Shelf Tk
set_option linter.unusedVariables false
set_option linter.unusedSimpArgs false
namespace RefR
/-- k bytes taken over, noughts behind. -/
def fl (ys : List Int) (n k : Nat) : List Int := ys.take k ++ List.replicate (n - k) 0
theorem fl_len (ys : List Int) (n k : Nat) (h : k ≤ ys.length) (hn : ys.length ≤ n) : (fl ys n k).length = n := by unfold fl; simp; omega
theorem fl_step (ys : List Int) (n k : Nat) (h : k < ys.length) (hn : ys.length ≤ n) : (fl ys n k).set k (gd ys k) = fl ys n (k + 1) := by
  refine ext_gd (by rw [List.length_set, fl_len ys n k (by omega) hn, fl_len ys n (k + 1) (by omega) hn]) fun i hi => ?_
  unfold gd fl
  rw [List.getElem?_set]
  by_cases e : k = i
  · subst e
    rw [if_pos rfl, if_pos (by simp; omega), List.getElem?_append_left (by simp; omega), List.getElem?_take, if_pos (by omega)]
    simp [h]
  · rw [if_neg e]
    by_cases hlt : i < k
    · rw [List.getElem?_append_left (by simp; omega), List.getElem?_append_left (by simp; omega), List.getElem?_take, List.getElem?_take, if_pos hlt, if_pos (by omega)]
    · rw [List.getElem?_append_right (by simp; omega), List.getElem?_append_right (by simp; omega), List.getElem?_replicate, List.getElem?_replicate]
      simp only [List.length_take]
      rw [List.length_set, fl_len ys n k (by omega) hn] at hi
      rw [if_pos (by omega), if_pos (by omega)]
theorem new_bad (x : Int) (A : Option Addr) (m c : Nat) (hb : x < 0 ∨ 4096 < x ∨ x < m) (w : World) :
    Calls Tryd.prog 29 #[.int .i64 x, .slice A m c] w fun e w' => e = .returned (.tuple #[.pointer none, .int .i64 1]) ∧ w = w' := by
  have hcs : decide (x < 0) = true ∨ (decide (x < 0) = false ∧ decide (4096 < x) = true) ∨ (decide (x < 0) = false ∧ decide (4096 < x) = false ∧ decide (x < (m : Int)) = true) := by
    simp only [decide_eq_true_eq, decide_eq_false_iff_not]; omega
  clear hb
  rcases hcs with p1 | ⟨p1, p2⟩ | ⟨p1, p2, p3⟩
  all_goals
    go_enter Tryd.func29, Tryd.ntmps29
    go_wp2_with fail
    go_ret2
    exact ⟨rfl, rfl⟩
set_option maxRecDepth 100000 in
theorem new_ok (n : Nat) (hn4 : n ≤ 4096) (A : Option Addr) (c m lo hi : Nat) (ys : List Int) (hm : ys.length = m) (hys : m ≤ n) (w : World) (hs : SlA w lo hi .u8 A ys) :
    Calls Tryd.prog 29 #[.int .i64 n, .slice A m c] w fun e w' => ∃ R v, e = .returned (.tuple #[.pointer (some ⟨R, 0, none⟩), .int .i64 0]) ∧ RQ w' R n v (fl ys n m) ∧ w.grownBy w' none ∧ w.heap.size ≤ R ∧ ∀ b, v.ownBlock = some b → w.heap.size ≤ b := by
  obtain ⟨i0, hi0, hz0, hz1, hz2⟩ := info_parts infoByte
  have p1 : decide ((n : Int) < 0) = false := decide_eq_false (by omega)
  have p2 : decide ((4096 : Int) < (n : Int)) = false := decide_eq_false (by omega)
  have p3 : decide ((n : Int) < (m : Int)) = false := decide_eq_false (by omega)
  have hK := Lib.hid (fun wr (h : w.grownBy wr none) => hs.kept h (by simp))
  replace hm := Lib.hid hm
  clear hs
  go_enter Tryd.func29, Tryd.ntmps29
  go_wp2_with (refine wpList_make_full w rfl _ _ 61 rfl w.heap.size 5 i0 (.int .u8 0) 1 Tryd.underlying61 hi0 hz0 hz1 .i64 .i64 n n n rfl rfl rfl rfl (by rw [hz2]; omega) (by unfold maxLen; omega) (Nat.le_refl _) ?_; intro w1 hown hgrow)
  have hM : Mine w1 w.heap.size 5 .u8 (.slice (some ⟨w.heap.size, 0, none⟩) n n) (fl ys n 0) := by
    unfold Mine fl
    rw [made_bytes] at hown
    simp only [List.take_zero, List.nil_append, Nat.sub_zero, List.length_replicate]
    exact hown
  go_loopw [7] (fun i wr => ∃ k : Nat, k ≤ m ∧ i = .int .i64 k ∧ Mine wr w.heap.size 5 .u8 (.slice (some ⟨w.heap.size, 0, none⟩) n n) (fl ys n k) ∧ w.grownBy wr none) (fun i _ => m - (intOf i).toNat)
  case atStart => exact ⟨0, Nat.zero_le _, rfl, hM, hgrow⟩
  case round =>
    obtain ⟨k, hk, rfl, hO, hg⟩ := hrel
    clear hM hown hgrow
    by_cases hlt : k < m
    · obtain ⟨b, o, rfl, q⟩ := (hK.out _ hg).at (i := k) (by rw [hm.out]; exact hlt)
      have hl : (fl ys n k).length = n := fl_len ys n k (by rw [hm.out]; omega) (by rw [hm.out]; exact hys)
      have q1 := hO.cell (i := k) (by rw [hl]; omega)
      have q2 := hO.frozen k
      have hO2 : Hid (Mine (wr.setCell ⟨w.heap.size, k, none⟩ (.int .u8 (gd ys k))) w.heap.size 5 .u8 (.slice (some ⟨w.heap.size, 0, none⟩) n n) (fl ys n (k + 1))) := by
        rw [← fl_step ys n k (by rw [hm.out]; exact hlt) (by rw [hm.out]; exact hys)]; exact hO.set k _
      have hg2 := Lib.hid (grown_step hg (grownBy_setCell wr w.heap.size k (.int .u8 (gd ys k))) (Nat.le_refl _))
      have hkI : (k : Int) < (m : Int) := by omega
      have hkn : (k : Int) < (n : Int) := by omega
      generalize gd ys k = x at *
      generalize gd (fl ys n k) k = z at *
      clear hO hg hl
      go_wp2_with fail
      go_roundw
      case rel => exact ⟨k + 1, by omega, by go_num, hO2.out, hg2.out⟩
      case measure => simp [intOf]; omega
    · obtain rfl : m = k := by omega
      have hl : (fl ys n m).length = n := fl_len ys n m (by rw [hm.out]; exact Nat.le_refl _) (by rw [hm.out]; exact hys)
      have hlt2 := hO.lt
      go_wp2_with fail
      go_ret2
      have h9 := hO.keep (World.grownBy_alloc wr (.cells #[.slice (some ⟨w.heap.size, 0, none⟩) n n] 123) none)
      refine ⟨wr.heap.size, .slice (some ⟨w.heap.size, 0, none⟩) n n, rfl, ⟨Arr.new _ _ _ _ _ rfl (fun i hi => by have e : i = 0 := (by omega); subst e; rfl), ?_, ⟨w.heap.size, by rw [hl]⟩, by simp [Value.ownBlock]; omega, by rw [hl]; exact hn4⟩, grown_alloc hg _, by omega, fun b hb => by cases hb; exact Nat.le_refl _⟩
      obtain ⟨h1, hr⟩ := h9
      exact ⟨h1, hr.imp id fun ⟨b, cap, cur, e, hb, r⟩ => ⟨b, cap, cur, e, Nat.zero_le _, r⟩⟩
end RefR
end Go.Proofs.YtabkkeeedlnmnaaDoor
