/- LaddersLists: what ladders and the reference tell, in memory of their own. -/
import Derived.Test.YtabkkeeedlnmnaaDoorLadL
import Derived.Test.YtabkkeeedlnmnaaDoorOwn
import Derived.Test.YtabkkeeedlnmnaaDoorSameI
namespace Go.Proofs.YtabkkeeedlnmnaaDoor
open Go.RowKit Go.Shelf Tk Tk.Lad
set_option linter.unusedVariables false
set_option linter.unusedSimpArgs false
theorem list_own (l : Nat) (hl : l < 4294967296) (w : World) :
    Calls Tryd.prog 8 #[.int .u32 l] w fun e w' => ∃ v, e = .returned v ∧ Mine w' w.heap.size 3 .i64 v (ranksI l) ∧ w.grownBy w' none :=
  (callsIn_wide.1 (list_in l hl w)).mono fun e w' ⟨v, he, hr, hb⟩ => ⟨v, he, hr, grown_of_below hb⟩
set_option maxHeartbeats 1000000 in
theorem refHas6 (l : Nat) (hl : l < 4294967296) (r : Int) (h0 : 0 ≤ r) (h1 : r ≤ 31) (b : Bool) (hb : Hid (l.testBit r.toNat = b)) (w : World) :
    Calls Tryd.prog 69 #[.int .u32 l, .int .i64 r] w fun e w' => e = .returned (.bool b) ∧ w = w' := by
  obtain ⟨n, rfl⟩ := Int.eq_ofNat_of_zero_le h0
  go_enter Tryd.func69, Tryd.ntmps69
  go_wp2
  go_loop [0, 5] (fun x i => ∃ k m : Nat, k ≤ n ∧ i = .int .i64 k ∧ x = .int .u32 m ∧ m < 4294967296 ∧ Hid (m = l / 2 ^ k)) (fun _ i => n - (intOf i).toNat)
  case atStart => exact ⟨0, l, Nat.zero_le _, rfl, rfl, hl, by show _ = _; simp⟩
  case round =>
    obtain ⟨k, m, hk, rfl, rfl, hm, he⟩ := hrel
    by_cases hlt : k < n
    · go_wp2
      go_round
      case rel => exact ⟨k + 1, m / 2, by omega, by go_num, by go_num, by omega, by show _ = _; rw [he.out, Nat.div_div_eq_div_mul, Nat.pow_succ]⟩
      case measure => simp [intOf]; omega
    · obtain ⟨b1, hb1⟩ : ∃ b, ((m : Int) % 2 == 1) = b := ⟨_, rfl⟩
      have hb2 : Hid (b1 = b) := by
        obtain rfl : k = n := by omega
        have h5 := hb.out
        simp only [Int.toNat_natCast] at h5
        have : decide (l / 2 ^ k % 2 = 1) = l.testBit k := by rw [Nat.testBit_eq_decide_div_mod_eq]
        rw [← he.out, h5] at this
        show _ = _
        rw [← hb1, ← this, Bool.eq_iff_iff]
        simp; omega
      go_wp2
      go_ret
      exact ⟨by rw [← hb2.out]; rfl, rfl⟩
set_option maxRecDepth 100000 in
set_option maxHeartbeats 1000000 in
theorem refList_own (l : Nat) (hl : l < 4294967296) (w : World) :
    Calls Tryd.prog 12 #[.int .u32 l] w fun e w' => ∃ v, e = .returned v ∧ Mine w' w.heap.size 3 .i64 v (ranksI l) ∧ w.grownBy w' none := by
  obtain ⟨i0, hi0, hz0, hz1, hz2⟩ := info_parts infoInt
  go_enter Tryd.func12, Tryd.ntmps12
  go_wp2_with fail
  go_loopw [3, 4] (fun x i wr => ∃ (k : Nat) (U : List Int), k ≤ 32 ∧ U.length + k ≤ 32 ∧ i = .int .i64 ((k : Int) - 1) ∧ Hid (U ++ (down l k).map (fun (n : Nat) => (n : Int)) = ranksI l) ∧ Mine wr w.heap.size 3 .i64 x U ∧ w.grownBy wr none) (fun _ i _ => (intOf i + 1).toNat)
  case atStart => exact ⟨32, [], Nat.le_refl _, Nat.le_refl _, rfl, rfl, Mine.nil _ _ _ _, grown_refl _ _⟩
  case round =>
    obtain ⟨k, U, hk, hU, rfl, he, hM, hg⟩ := hrel
    have hws : w.heap.size ≤ wr.heap.size := hg.size
    cases k with
    | zero =>
      clear hk hU
      obtain ⟨A1, c1, rfl, -⟩ := hM.form
      go_wp2_with fail
      go_ret
      have : U = ranksI l := by have := he.out; simpa [down] using this
      subst this
      exact ⟨_, rfl, hM, hg⟩
    | succ k =>
      have hcast : ((k + 1 : Nat) : Int) - 1 = (k : Int) := by omega
      rw [hcast]
      have k0 : (0 : Int) ≤ (k : Int) := Int.natCast_nonneg _
      have k1 : (k : Int) ≤ 31 := by omega
      obtain ⟨b, hb⟩ : ∃ b, l.testBit k = b := ⟨_, rfl⟩
      have hh := Lib.hid (refHas6 l hl k k0 k1 b (by show _ = _; rw [Int.toNat_natCast]; exact hb) wr)
      obtain ⟨A1, c1, rfl, -⟩ := hM.form
      cases b with
      | true =>
        have he2 : Hid ((U ++ [(k : Int)]) ++ (down l k).map (fun (n : Nat) => (n : Int)) = ranksI l) := by
          show _ = _
          rw [← he.out]
          simp [down, hb]
        have gA := World.grownBy_alloc wr (.cells #[.int .i64 (k : Int)] 3) none
        have hMA := Lib.hid hM
        replace he := Lib.hid he
        replace hb := Lib.hid hb
        clear hM
        go_wp2_with (first | (go_at_call 69; refine hh.out.mono ?_; rintro e w7 ⟨rfl, rfl⟩) | (at_builtin; refine wpList_append_own _ rfl _ _ 23 rfl w.heap.size 3 i0 (.int .i64 0) 1 8 Tryd.underlying23 hi0 hz0 hz1 hz2 rfl (by decide) (.slice A1 U.length c1) U.length (U.map (Value.int .i64)) rfl (World.ownsRow.alloc hMA.out _) ⟨wr.heap.size, 0, none⟩ 1 1 [.int .i64 (k : Int)] rfl rfl (cell_one_new _ _ _) (by simp [Value.oneCell']) (by unfold maxLen; omega) (by omega) (by simp; omega) ?_; intro v' w5 hown hgrow _))
        have hg5 : Hid (w.grownBy w5 none) := (hMA.out.keep gA).far (grown_alloc hg _) (Nat.le_refl _) hgrow
        have hM5 : Hid (Mine w5 w.heap.size 3 .i64 v' (U ++ [(k : Int)])) := Mine.add hown
        go_roundw
        case rel => exact ⟨k, U ++ [(k : Int)], by omega, by simp; omega, by go_num, he2.out, hM5.out, hg5.out⟩
        case measure => simp [intOf]
      | false =>
        have he2 : Hid (U ++ (down l k).map (fun (n : Nat) => (n : Int)) = ranksI l) := by
          show _ = _
          rw [← he.out]
          simp [down, hb]
        have hMA := Lib.hid hM
        replace hb := Lib.hid hb
        clear hM
        go_wp2_with (first | (go_at_call 69; refine hh.out.mono ?_; rintro e w7 ⟨rfl, rfl⟩))
        go_roundw
        case rel => exact ⟨k, U, by omega, by omega, by go_num, he2.out, hMA.out, hg⟩
        case measure => simp [intOf]
theorem addr_of {A : Option Addr} {xs : List Int} {m base sz : Nat} (h : A = none ∧ xs = [] ∨ ∃ g, A = some ⟨g, 0, none⟩ ∧ base ≤ g ∧ g < sz) (hl : xs.length = m + 1) : ∃ g, A = some ⟨g, 0, none⟩ := by
  rcases h with ⟨-, h⟩ | ⟨g, h, -⟩
  · rw [h] at hl; simp at hl
  · exact ⟨g, h⟩
theorem refFirst_zero (w : World) : Calls Tryd.prog 10 #[.int .u32 0] w fun e w' => e = .returned (.tuple #[.int .i64 0, .bool false]) ∧ w.grownBy w' none := by
  have hl := Lib.hid (refList_own 0 (by decide) w)
  go_enter Tryd.func10, Tryd.ntmps10
  go_wp2_with (first | (go_at_call 12; refine hl.out.mono ?_; rintro e w1 ⟨v, rfl, hM, hg1⟩; obtain ⟨A1, c1, rfl, -⟩ := hM.form; have he : (ranksI 0).length = 0 := rfl; rw [he]))
  go_ret2
  exact ⟨rfl, hg1⟩
theorem refFirst_pos (l : Nat) (h0 : l ≠ 0) (hl : l < 4294967296) (w : World) : Calls Tryd.prog 10 #[.int .u32 l] w fun e w' => e = .returned (.tuple #[.int .i64 l.log2, .bool true]) ∧ w.grownBy w' none := by
  have hl := Lib.hid (refList_own l hl w)
  go_enter Tryd.func10, Tryd.ntmps10
  have hcons : ranksI l = (l.log2 : Int) :: ranksI (clrN l l.log2) := by unfold ranksI; rw [ranks_cons h0 ‹_›]; simp
  obtain ⟨m, hm⟩ : ∃ m, (ranksI (clrN l l.log2)).length = m := ⟨_, rfl⟩
  have hlen : (ranksI l).length = m + 1 := by rw [hcons, List.length_cons, hm]
  have hg0 : gd (ranksI l) 0 = (l.log2 : Int) := by rw [hcons]; rfl
  have hm0 : (0 : Int) ≤ (m : Int) := Int.natCast_nonneg _
  have hm1 : ((m + 1 : Nat) : Int) = (m : Int) + 1 := by push_cast; rfl
  replace hcons := Lib.hid hcons
  replace hm := Lib.hid hm
  go_wp2_with (first | (go_at_call 12; refine hl.out.mono ?_; rintro e w1 ⟨v, rfl, hM, hg1⟩; obtain ⟨A1, c1, rfl, -, -, hA⟩ := hM.form; rw [hlen] at hM ⊢; obtain ⟨g, rfl⟩ := addr_of hA hlen; have hc := hM.cell (i := 0) (by rw [hlen]; omega); rw [hg0] at hc; clear hA))
  go_ret2
  exact ⟨rfl, hg1⟩
end Go.Proofs.YtabkkeeedlnmnaaDoor
