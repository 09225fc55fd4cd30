/- Package rings: New, List. -/
import Derived.Test.YtdbddfbdhgohbaaGreatDoorRing4
import Derived.Test.YtdbddfbdhgohbaaGreatDoorBlk
namespace Go.Proofs.YtdbddfbdhgohbaaGreatDoor
open Go.RowKit Go.Shelf Tk
set_option linter.unusedVariables false
set_option linter.unusedSimpArgs false

theorem made_ints (n : Nat) : (madeCells (Value.int .i64 0).cells (n * 1)).toList = (List.replicate n (0 : Int)).map (Value.int .i64) := by
  apply List.ext_getElem
  · simp [size_madeCells]
  · intro i h1 h2
    simp [madeCells, Value.cells, Nat.mod_one]
theorem take_snoc {xs : List Int} {k : Nat} (h : k < xs.length) : xs.take k ++ [gd xs k] = xs.take (k + 1) := by
  rw [gd_lt h, List.take_append_getElem h]
set_option maxRecDepth 100000 in
set_option maxHeartbeats 2000000 in
theorem new_ok (n : Nat) (x : Int) (hx : x = n) (h1 : 1 ≤ n) (h2 : n ≤ 1024) (w : World) :
    Calls Tryz.prog 21 #[.int .i64 x] w fun e w' => ∃ B M, e = .returned (.tuple #[.pointer (some ⟨B, 0, none⟩), .int .i64 0]) ∧ Rg w' B M n [] 0 (fun _ => 0) ∧ w.heap.size ≤ M ∧ w.heap.size ≤ B ∧ w.grownBy w' none := by
  subst hx
  obtain ⟨i0, hi0, hz0, hz1, hz2⟩ := info_parts infoInt
  go_enter Tryz.func21, Tryz.ntmps21
  go_wp2_with (refine wpList_make_full w rfl _ _ 45 rfl w.heap.size 3 i0 (.int .i64 0) 1 Tryz.underlying45 hi0 hz0 hz1 .i64 .i64 n n n rfl rfl rfl rfl (by rw [hz2]; omega) (by unfold maxLen; omega) (Nat.le_refl _) ?_; intro w1 hown hgrow)
  go_ret2
  obtain ⟨g1, g2, g3⟩ := Blk.of_owns (k := .i64) (xs := List.replicate n 0) (by rw [made_ints] at hown; exact hown)
  have hlt := g1.lt
  refine ⟨w1.heap.size, w.heap.size, rfl, ⟨Arr.new _ _ _ _ _ rfl (fun i hi => ?_), ?_, by omega, by omega, Nat.zero_le _, h2, fun j hj => absurd hj (Nat.not_lt_zero _)⟩, Nat.le_refl _, by omega, grown_alloc hgrow _⟩
  · rcases (by omega : i = 0 ∨ i = 1 ∨ i = 2) with rfl | rfl | rfl <;> simp [rv]
  · exact Arr.alloc (n := n) (f := fun _ => .int .i64 0) ⟨_, _, g1, by simp, fun i hi => by simp [hi]⟩ _
theorem new_bad (x : Int) (h : x < 1 ∨ 1024 < x) (w : World) :
    Calls Tryz.prog 21 #[.int .i64 x] w fun e w' => e = .returned (.tuple #[.pointer none, .int .i64 1]) ∧ w = w' := by
  by_cases h1 : x < 1
  · go_enter Tryz.func21, Tryz.ntmps21
    go_wp2
    go_ret2
    exact ⟨rfl, rfl⟩
  · have h2 : 1024 < x := by omega
    go_enter Tryz.func21, Tryz.ntmps21
    go_wp2
    go_ret2
    exact ⟨rfl, rfl⟩
section
variable {w : World} {B M m : Nat} {ns : List Int} {f : Nat} {c : Nat → Int}
set_option maxRecDepth 100000 in
set_option maxHeartbeats 2000000 in
theorem list_ok (h : Rg w B M m ns f c) : Calls Tryz.prog 31 #[.pointer (some ⟨B, 0, none⟩)] w fun e w' => ∃ A k, e = .returned (.slice A ns.length k) ∧ ns.length ≤ k ∧ Mine w' w.heap.size 3 .i64 (.slice A ns.length k) ns ∧ w.grownBy w' none := by
  obtain ⟨i0, hi, hz0, hz1, hz2⟩ := info_parts infoInt
  have hml : ns.length ≤ 1024 := Nat.le_trans h.le h.mm
  have hc2 := h.c2
  have hm1 := h.m1
  have hK := Lib.hid (fun wr (hg : w.grownBy wr none) => h.keep hg)
  go_enter Tryz.func31, Tryz.ntmps31
  go_wp2_with fail
  refine h.there.mono ?_; rintro e w' ⟨rfl, rfl⟩
  go_wp2_with fail
  go_loopw [2, 12] (fun v i wr => ∃ k : Nat, k ≤ ns.length ∧ i = .int .i64 k ∧ Mine wr w.heap.size 3 .i64 v (ns.take k) ∧ w.grownBy wr none) (fun _ i _ => ns.length - (intOf i).toNat)
  case atStart => exact ⟨0, Nat.zero_le _, rfl, Mine.nil _ _ _ _, grown_refl _ _⟩
  case round =>
    obtain ⟨k, hk, rfl, hM, hg⟩ := hrel
    clear hc2
    have htl : (ns.take k).length = k := by simp; omega
    have hws := hg.size
    obtain ⟨A1, k1, rfl, hc1, hc2, -⟩ := hM.form
    rw [htl] at hM hc1 ⊢
    by_cases hlt : k < ns.length
    · have hQ := hK.out _ hg
      obtain ⟨p, hp, hp2, hp3⟩ := mod_place (f := f) (i := k) (m := m) hm1
      have hci := hQ.atj hlt
      rw [← hp2] at hci
      have hts := Lib.hid (take_snoc hlt)
      replace hp := Lib.hid hp
      replace hp2 := Lib.hid hp2
      generalize gd ns k = x at *
      go_wp2_with fail
      refine (hQ.at_ok k p (by omega) hp.out).mono ?_; rintro e w' ⟨rfl, nq, rfl⟩
      have hrow2 : (wr.drewN nq).ownsRow w.heap.size 3 1 (.slice A1 k k1) k ((ns.take k).map (Value.int .i64)) := by
        have := hM.drewN nq; unfold Mine at this; rwa [htl] at this
      replace hrow2 := Lib.hid hrow2
      have hM2 := hM.drewN nq
      have hg2 := grown_drewN hg nq
      have hci2 : (wr.drewN nq).cell? ⟨M, p, none⟩ = some (.int .i64 x) := hci
      have hws2 : w.heap.size ≤ (wr.drewN nq).heap.size := hws
      generalize wr.drewN nq = W at *
      clear hci
      have hgA := World.grownBy_alloc W (.cells #[.int .i64 x] 3) none
      go_wp2_with (at_builtin; refine wpList_append_own _ rfl _ _ 45 rfl w.heap.size 3 i0 (.int .i64 0) 1 8 Tryz.underlying45 hi hz0 hz1 hz2 rfl (by decide) (.slice A1 k k1) k ((ns.take k).map (Value.int .i64)) rfl (World.ownsRow.alloc hrow2.out _) ⟨W.heap.size, 0, none⟩ 1 1 [.int .i64 x] rfl rfl (cell_one_new _ _ _) (by simp [Value.oneCell']) (by unfold maxLen; omega) (by omega) (by simp; omega) ?_; intro v' w5 hown hgrow _)
      go_roundw
      case rel =>
        refine ⟨k + 1, by omega, by go_num, ?_, (hM2.keep hgA).far (grown_alloc hg2 _) (Nat.le_refl _) hgrow⟩
        rw [← hts.out]
        have hown' : w5.ownsRow w.heap.size 3 1 v' ((ns.take k).length + 1) ((ns.take k).map (Value.int .i64) ++ [.int .i64 x]) := by rw [htl]; exact hown
        exact Mine.add hown'
      case measure => simp [intOf] <;> omega
    · obtain rfl : k = ns.length := by omega
      rw [List.take_length] at hM
      go_wp2_with fail
      go_ret
      exact ⟨A1, k1, rfl, hc1, hM, hg⟩
theorem list_n (n : Nat) (hn : ns.length = n) (h : Rg w B M m ns f c) : Calls Tryz.prog 31 #[.pointer (some ⟨B, 0, none⟩)] w fun e w' => ∃ A k, e = .returned (.slice A n k) ∧ n ≤ k ∧ Mine w' w.heap.size 3 .i64 (.slice A n k) ns ∧ w.grownBy w' none := by
  subst hn; exact list_ok h
end
end Go.Proofs.YtdbddfbdhgohbaaGreatDoor
