/- timekeeperref16: Put, Remove, Change, whole. -/
import Derived.Test.YtiakbgdeanllnaaDoorWtRef3
namespace Go.Proofs.YtiakbgdeanllnaaDoor
open Go.RowKit Go.Shelf Tk
set_option linter.unusedVariables false
set_option linter.unusedSimpArgs false
namespace RefT
variable {w w' : World} {R : Nat} {v : Value} {ns : List (Int × Int)}
set_option maxRecDepth 100000 in
set_option maxHeartbeats 4000000 in
/-- Nobody is there. -/
theorem put_none (x r : Int) (h0 : 0 ≤ x) (hr0 : 0 ≤ r) (hr1 : r ≤ 31) (h : RQ w R (.slice none 0 0) []) :
    Calls Tryd.prog 12 #[.pointer (some ⟨R, 0, none⟩), .int .i64 x, .int .i64 r] w fun e w' => e = .returned (.int .i64 0) ∧ Post w R (.slice none 0 0) [(x, r)] w' := by
  obtain ⟨i0, hi0, hz0, hz1, hz2⟩ := info_parts infoOne
  have p1 : decide (x < 0) = false := decide_eq_false (by omega)
  have p2 : decide (r < 0) = false := decide_eq_false (by omega)
  have p3 : decide (31 < r) = false := decide_eq_false (by omega)
  have hat := Lib.hid (at_ok x h (by simp))
  have hR := Lib.hid h
  have c0 := h.c0
  have hG0 : Hid (w.grownBy w.drew none) := grown_drewN (grown_refl _ _) 1
  have hGb : Hid (w.grownBy (w.alloc (.cells #[.int .i64 x, .int .i64 r] 65)).drew none) := grown_drewN (World.grownBy_alloc w _ none) 1
  have c0d : w.drew.cell? ⟨R, 0, none⟩ = some (.slice none 0 0) := c0
  have c0b : (w.alloc (.cells #[.int .i64 x, .int .i64 r] 65)).cell? ⟨R, 0, none⟩ = some (.slice none 0 0) := (hR.out.keep hGb.out).c0
  have hob : Hid (SlV (w.alloc (.cells #[.int .i64 x, .int .i64 r] 65)).drew (some ⟨w.heap.size, 0, none⟩) (fl [(x, r)])) := one_slv w x r _
  have hWb : Hid (w.heap.size < (w.alloc (.cells #[.int .i64 x, .int .i64 r] 65)).drew.heap.size) := by
    show _ < (w.alloc _).heap.size; rw [World.size_alloc]; exact Nat.lt_succ_self _
  clear h h0 hr0 hr1
  go_enter Tryd.func12, Tryd.ntmps12
  go_wp2_with fail
  refine hat.out.mono ?_; rintro e w1 ⟨q, rfl, hF, rfl⟩
  have hq : decide (0 ≤ q) = false := decide_eq_false (by
    rcases at_mem hF with ⟨-, j, -, h1, h2, -⟩ | h
    · exact absurd h1 (Nat.not_lt_zero _)
    · omega)
  clear hF hat
  go_wp2_with fail
  go_loopw [7] (fun i wr => i = .int .i64 0 ∧ wr = w) (fun i _ => 0)
  case atStart => exact ⟨rfl, rfl⟩
  case round =>
    obtain ⟨rfl, hww⟩ := hrel
    obtain rfl : w = wr := hww.symm
    go_wp2_with fail
    go_region_law (first
      | (refine step_join rfl _ _ 57 rfl w.heap.size 65 i0 _ Tryd.underlying57 hi0 hz0 hz1 hz2 rfl (.slice none 0 0) 0 [] rfl (World.ownsRow_nil _ _ _ _) none 0 0 [] rfl rfl (.inl rfl) (by simp) (by omega) hGb.out.size ?_; intro v1 w1 hown1 hg1; have hG1 := Lib.hid (grown_trans hGb.out hg1); have c01 : w1.cell? ⟨R, 0, none⟩ = some (.slice none 0 0) := (hR.out.keep hG1.out).c0; have hone := Lib.hid (SlV.kept hob.out (by intro ad had; cases had; exact hWb.out) hg1); clear hg1)
      | (refine step_join rfl _ _ 57 rfl w.heap.size 65 i0 _ Tryd.underlying57 hi0 hz0 hz1 hz2 rfl (.slice none 0 0) 0 [] rfl (World.ownsRow_nil _ _ _ _) none 0 0 [] rfl rfl (.inl rfl) (by simp) (by omega) hG0.out.size ?_; intro v1 w1 hown1 hg1; have hG1 := Lib.hid (grown_trans hG0.out hg1); have c01 : w1.cell? ⟨R, 0, none⟩ = some (.slice none 0 0) := (hR.out.keep hG1.out).c0; have c01a : (w1.alloc (.cells #[.int .i64 x, .int .i64 r] 65)).cell? ⟨R, 0, none⟩ = some (.slice none 0 0) := (hR.out.keep (grown_alloc hG1.out _)).c0; clear hg1)
      | (refine step_join rfl _ _ 57 rfl w.heap.size 65 i0 _ Tryd.underlying57 hi0 hz0 hz1 hz2 rfl v1 (0 + 0) ([] ++ []) rfl hown1 (some ⟨w.heap.size, 0, none⟩) 1 1 (fl [(x, r)]) rfl rfl hone.out (fl_one _) (by omega) hG1.out.size ?_; intro v2 w2 hown2 hg2'; have hG2 := Lib.hid (grown_row hG1.out hown1 hg2'); have c02 : w2.cell? ⟨R, 0, none⟩ = some (.slice none 0 0) := (hR.out.keep hG2.out).c0; clear hg2')
      | (refine step_join rfl _ _ 57 rfl w.heap.size 65 i0 _ Tryd.underlying57 hi0 hz0 hz1 hz2 rfl v1 (0 + 0) ([] ++ []) rfl (World.ownsRow.alloc hown1 _) (some ⟨w1.heap.size, 0, none⟩) 1 1 (fl [(x, r)]) rfl rfl (one_slv w1 x r _) (fl_one _) (by omega) (Nat.le_trans hG1.out.size (by simp)) ?_; intro v2 w2 hown2 hg2'; have hG2 := Lib.hid (grown_row (grown_alloc hG1.out _) (World.ownsRow.alloc hown1 _) hg2'); have c02 : w2.cell? ⟨R, 0, none⟩ = some (.slice none 0 0) := (hR.out.keep hG2.out).c0; clear hg2')
      | (refine step_join rfl _ _ 57 rfl w.heap.size 65 i0 _ Tryd.underlying57 hi0 hz0 hz1 hz2 rfl v2 (0 + 0 + 1) ([] ++ [] ++ fl [(x, r)]) rfl hown2 none 0 0 [] rfl rfl (.inl rfl) (by simp) (by omega) hG2.out.size ?_; intro v3 w3 hown3 hg3; have hM3 : MineP w3 w.heap.size v3 [(x, r)] := (by simpa [MineP] using hown3); obtain ⟨A3, L3, c3, e3⟩ := hM3.form2; obtain ⟨hu0, hf0, hP⟩ := fin hR.out hM3 (grown_row hG2.out hown2 hg3); subst e3; clear hM3 hown3 hg3))
    all_goals
      go_wp2_with fail
      all_goals
        go_ret
        exact ⟨rfl, hP⟩
theorem put_ok (x r : Int) (h0 : 0 ≤ x) (hr0 : 0 ≤ r) (hr1 : r ≤ 31) (h : RQ w R v ns) (hl : ns.length ≤ 1000) (hno : ∀ i, i < ns.length → (gp ns i).1 ≠ x) :
    Calls Tryd.prog 12 #[.pointer (some ⟨R, 0, none⟩), .int .i64 x, .int .i64 r] w fun e w' => e = .returned (.int .i64 0) ∧ Post w R v (ins ns x r) w' := by
  by_cases hv : v = .slice none 0 0
  · subst hv
    rcases h.open with ⟨-, h2⟩ | ⟨g, c, h2, -⟩
    · subst h2; exact put_none x r h0 hr0 hr1 h
    · cases h2
  · exact put_some x r h0 hr0 hr1 h hl hno hv
theorem change_arg (x r : Int) (h : RQ w R v ns) (hl : ns.length ≤ 1000) (hb : (∀ i, i < ns.length → (gp ns i).1 ≠ x) ∨ r < 0 ∨ 31 < r) :
    Calls Tryd.prog 10 #[.pointer (some ⟨R, 0, none⟩), .int .i64 x, .int .i64 r] w fun e w' => e = .returned (.int .i64 1) ∧ w = w' := by
  have hat := Lib.hid (at_ok x h (by omega))
  replace hb := Lib.hid hb
  clear h
  go_enter Tryd.func10, Tryd.ntmps10
  go_wp2_with fail
  refine hat.out.mono ?_; rintro e w1 ⟨q, rfl, hF, rfl⟩
  have hq : decide (q < 0) = true ∨ (decide (q < 0) = false ∧ decide (r < 0) = true) ∨ (decide (q < 0) = false ∧ decide (r < 0) = false ∧ decide (31 < r) = true) := by
    simp only [decide_eq_true_eq, decide_eq_false_iff_not]
    rcases at_mem hF with ⟨h1, j, -, h2, h3, -⟩ | h
    · rcases hb.out with h4 | h4
      · exact absurd h3 (h4 j h2)
      · omega
    · exact .inl h.1
  clear hF hat hb
  rcases hq with q1 | ⟨q1, q2⟩ | ⟨q1, q2, q3⟩
  all_goals
    go_wp2_with fail
    go_ret
    exact ⟨rfl, rfl⟩
theorem change_same (x r : Int) (hr0 : 0 ≤ r) (hr1 : r ≤ 31) (h : RQ w R v ns) (hl : ns.length ≤ 1000) (j : Nat) (hj : j < ns.length) (hj1 : (gp ns j).1 = x) (hj2 : ∀ i, i < j → (gp ns i).1 ≠ x) (hs : (gp ns j).2 = r) :
    Calls Tryd.prog 10 #[.pointer (some ⟨R, 0, none⟩), .int .i64 x, .int .i64 r] w fun e w' => e = .returned (.int .i64 0) ∧ w = w' := by
  have hat := Lib.hid (at_ok x h (by omega))
  have p2 : decide (r < 0) = false := decide_eq_false (by omega)
  have p3 : decide (31 < r) = false := decide_eq_false (by omega)
  obtain ⟨n, hn⟩ : ∃ n, ns.length = n := ⟨_, rfl⟩
  obtain ⟨g, c, rfl, hc, q⟩ : ∃ g c, v = .slice (some ⟨g, 0, none⟩) n c ∧ n ≤ c ∧ w.cell? ⟨g, j * 2 + 1, none⟩ = some (.int .i64 r) := by
    rcases h.open with ⟨-, h2⟩ | ⟨g, c, rfl, h1, h2, h3⟩
    · subst h2; exact absurd hj (Nat.not_lt_zero _)
    · exact ⟨g, c, by rw [hn], by omega, by have := (h3 j hj).2; rw [hs] at this; exact this⟩
  have c0 := h.c0
  replace hj1 := Lib.hid hj1
  replace hj2 := Lib.hid hj2
  have hmem : Hid (∀ r, At x ns r → r = (j : Nat)) := fun r hr => by
    rcases hr with ⟨q, rfl, h1, h2, h3⟩ | ⟨rfl, h1⟩
    · have : q = j := by
        rcases Nat.lt_trichotomy q j with e | e | e
        · exact absurd h2 (hj2.out q e)
        · exact e
        · exact absurd hj1.out (h3 j e)
      rw [this]
    · exact absurd hj1.out (h1 j hj)
  rw [hn] at hj hl
  have hjI : (j : Int) < (n : Int) := by omega
  have hr : decide ((j : Int) < 0) = false := decide_eq_false (by omega)
  have hrr : (r != r) = false := by simp
  have h0 : (0 : Int) ≤ (j : Int) := Int.natCast_nonneg _
  clear h hn hs
  go_enter Tryd.func10, Tryd.ntmps10
  go_wp2_with fail
  refine hat.out.mono ?_; rintro e w1 ⟨q, rfl, hF, rfl⟩
  obtain rfl := hmem.out _ hF
  clear hF hat hmem
  go_wp2_with fail
  go_ret
  exact ⟨rfl, rfl⟩
theorem rm_len {j : Nat} (hj : j < ns.length) : (rm ns j).length = ns.length - 1 := by unfold rm; simp; omega
theorem gp_mem {i : Nat} (hi : i < ns.length) : gp ns i ∈ ns := by
  have : gp ns i = ns[i] := by simp [gp, hi]
  rw [this]; exact List.getElem_mem hi
theorem rm_no {x : Int} {j : Nat} (hu : (ns.map Prod.fst).Nodup) (hj : j < ns.length) (hj1 : (gp ns j).1 = x) : ∀ i, i < (rm ns j).length → (gp (rm ns j) i).1 ≠ x := by
  intro i hi he
  have hm := gp_mem hi
  have e : ns = ns.take j ++ gp ns j :: ns.drop (j + 1) := by
    have : gp ns j = ns[j] := by simp [gp, hj]
    rw [this, ← List.drop_eq_getElem_cons hj, List.take_append_drop]
  rw [e, List.map_append, List.map_cons, List.nodup_append] at hu
  obtain ⟨-, h2, h3⟩ := hu
  rw [List.nodup_cons] at h2
  unfold rm at hm
  rcases List.mem_append.1 hm with h | h
  · exact h3 _ (List.mem_map_of_mem h) _ (List.mem_cons_self ..) (by rw [hj1]; exact he)
  · exact h2.1 (by rw [hj1, ← he]; exact List.mem_map_of_mem h)
set_option maxRecDepth 100000 in
theorem change_move (x r : Int) (h0x : 0 ≤ x) (hr0 : 0 ≤ r) (hr1 : r ≤ 31) (h : RQ w R v ns) (hl : ns.length ≤ 1000) (hu : (ns.map Prod.fst).Nodup) (j : Nat) (hj : j < ns.length) (hj1 : (gp ns j).1 = x) (hj2 : ∀ i, i < j → (gp ns i).1 ≠ x) (hs : (gp ns j).2 ≠ r) :
    Calls Tryd.prog 10 #[.pointer (some ⟨R, 0, none⟩), .int .i64 x, .int .i64 r] w fun e w' => e = .returned (.int .i64 0) ∧ Post w R v (ins (rm ns j) x r) w' := by
  have hat := Lib.hid (at_ok x h (by omega))
  have hrm := Lib.hid (remove_ok x h hl j hj hj1 hj2)
  have hpu := Lib.hid (fun W v1 (h1 : RQ W R v1 (rm ns j)) => put_ok x r h0x hr0 hr1 h1 (by rw [rm_len hj]; omega) (rm_no hu hj hj1))
  have p2 : decide (r < 0) = false := decide_eq_false (by omega)
  have p3 : decide (31 < r) = false := decide_eq_false (by omega)
  obtain ⟨n, hn⟩ : ∃ n, ns.length = n := ⟨_, rfl⟩
  obtain ⟨g, c, rfl, hc, q⟩ : ∃ g c, v = .slice (some ⟨g, 0, none⟩) n c ∧ n ≤ c ∧ w.cell? ⟨g, j * 2 + 1, none⟩ = some (.int .i64 (gp ns j).2) := by
    rcases h.open with ⟨-, h2⟩ | ⟨g, c, rfl, h1, h2, h3⟩
    · subst h2; exact absurd hj (Nat.not_lt_zero _)
    · exact ⟨g, c, by rw [hn], by omega, (h3 j hj).2⟩
  have c0 := h.c0
  replace hj1 := Lib.hid hj1
  replace hj2 := Lib.hid hj2
  have hmem : Hid (∀ r, At x ns r → r = (j : Nat)) := fun r hr => by
    rcases hr with ⟨q, rfl, h1, h2, h3⟩ | ⟨rfl, h1⟩
    · have : q = j := by
        rcases Nat.lt_trichotomy q j with e | e | e
        · exact absurd h2 (hj2.out q e)
        · exact e
        · exact absurd hj1.out (h3 j e)
      rw [this]
    · exact absurd hj1.out (h1 j hj)
  rw [hn] at hj hl
  have hjI : (j : Int) < (n : Int) := by omega
  have hr : decide ((j : Int) < 0) = false := decide_eq_false (by omega)
  have hrr : ((gp ns j).2 != r) = true := by rw [bne_iff_ne]; exact hs
  have h0 : (0 : Int) ≤ (j : Int) := Int.natCast_nonneg _
  generalize (gp ns j).2 = y at *
  clear h hn hs hu h0x hr0 hr1
  go_enter Tryd.func10, Tryd.ntmps10
  go_wp2_with fail
  refine hat.out.mono ?_; rintro e w1 ⟨q, rfl, hF, rfl⟩
  obtain rfl := hmem.out _ hF
  clear hF hat hmem
  go_wp2_with fail
  refine hrm.out.mono ?_; rintro e W ⟨rfl, v1, hR1, hF1, hat1⟩
  have hR1' := Lib.hid hR1
  have hF1' := Lib.hid hF1
  have hat1' := Lib.hid hat1
  clear hrm hR1 hF1 hat1
  go_wp2_with fail
  refine (hpu.out W v1 hR1'.out).mono ?_; rintro e W2 ⟨rfl, v2, hR2, hF2, hat2⟩
  have hP : Hid (Post w R (.slice (some ⟨g, 0, none⟩) n c) (ins (rm ns j) x r) W2) := by
    refine ⟨v2, hR2, ?_, fun b hb => ?_⟩
    · have f2 : Fr (fun k => OwnQ R (.slice (some ⟨g, 0, none⟩) n c) k ∨ w.heap.size ≤ k) w W2 := (hF1'.out.mono fun k _ => Or.inl).trans (hF2.mono fun k _ hk => by
        rcases hk with e | e
        · exact .inl (.inl e)
        · exact (hat1'.out k e).imp .inr id)
      exact f2.mono fun k hk h => h.resolve_right (by omega)
    · rcases hat2 b hb with h | h
      · exact hat1'.out b h
      · exact .inr (Nat.le_trans hF1'.out.size h)
  clear hR2 hF2 hat2
  go_wp2_with fail
  go_ret
  exact ⟨rfl, hP.out⟩
end RefT
end Go.Proofs.YtiakbgdeanllnaaDoor
