/- timekeeperref07: Take, Turn, Remove, List. -/
import Derived.Test.YtmjcanamfijdjaaDoorRngRef2
namespace Go.Proofs.YtmjcanamfijdjaaDoor
open Go.RowKit Go.Shelf Tk
set_option linter.unusedVariables false
set_option linter.unusedSimpArgs false
namespace RefG
variable {w w' : World} {R m : Nat} {v : Value} {ms : List Int}
theorem take_empty (h : RQ w R m v []) : Calls Tryd.prog 11 #[.pointer (some ⟨R, 0, none⟩)] w fun e w' => e = .returned (.tuple #[.int .i64 0, .int .i64 11]) ∧ w = w' := by
  obtain ⟨A, c, rfl, -⟩ := h.sl.form
  have c0 : w.cell? ⟨R, 0, none⟩ = some (.slice A 0 c) := h.c0
  clear h
  go_enter Tryd.func11, Tryd.ntmps11
  go_wp2_with fail
  go_ret2
  exact ⟨rfl, rfl⟩
set_option maxHeartbeats 1000000 in
theorem take_ok (x : Int) (h : RQ w R m v (x :: ms)) (h64 : ms.length ≤ 2000) : Calls Tryd.prog 11 #[.pointer (some ⟨R, 0, none⟩)] w fun e w' => e = .returned (.tuple #[.int .i64 x, .int .i64 0]) ∧ Post w R m v ms w' := by
  obtain ⟨b, o, c, rfl, hM, hc⟩ : ∃ b o c, v = .slice (some ⟨b, o, none⟩) (ms.length + 1) c ∧ MineO w 0 .i64 (.slice (some ⟨b, o, none⟩) (ms.length + 1) c) (x :: ms) ∧ ms.length + 1 ≤ c := by
    rcases h.sl with ⟨-, h⟩ | hM
    · cases h
    · obtain ⟨b, o, c, rfl, h2, h3, h4, h5⟩ := hM
      exact ⟨b, o, c, by simp, ⟨b, o, c, by simp, h2, h3, h4, h5⟩, by simpa using h4⟩
  have hx : w.cell? ⟨b, o, none⟩ = some (.int .i64 x) := by
    obtain ⟨b', o', c', e, -, -, -, -, -, h6⟩ := hM
    cases e
    have := h6 0 (by simp); simpa [gd] using this
  have c0 := h.c0
  have f0 := h.hdr.frozen 0
  have ht := hM.tail
  have hfin : Hid (∀ u, QS w u ms → u.ownBlock = some b → Post w R m (.slice (some ⟨b, o, none⟩) (ms.length + 1) c) ms (w.setCell ⟨R, 0, none⟩ u)) := fun u hu hb => by
    obtain ⟨-, -, hP⟩ := fin h (Fr.refl _ w) hu ⟨rfl, rfl, rfl, Nat.le_refl _, fun _ _ _ => rfl⟩ (fun k hk => .inl (by rw [hb] at hk; cases hk; rfl))
    exact hP
  obtain ⟨n, hn⟩ : ∃ n, ms.length = n := ⟨_, rfl⟩
  rw [hn] at c0 h64 hc hfin ht ⊢
  have hP1 : Hid (Post w R m (.slice (some ⟨b, o, none⟩) (n + 1) c) ms (w.setCell ⟨R, 0, none⟩ (.slice (some ⟨b, o + 1, none⟩) n (c - 1)))) := hfin.out _ (.inr ht.1) rfl
  have hP0 : Hid (c = 1 → Post w R m (.slice (some ⟨b, o, none⟩) (n + 1) c) ms (w.setCell ⟨R, 0, none⟩ (.slice (some ⟨b, o, none⟩) n (c - 1)))) := fun h1 => by
    have h0 : n = 0 := by omega
    have hms : ms = [] := List.length_eq_zero_iff.1 (hn.trans h0)
    have := hfin.out _ (.inr (by rw [hms]; exact ht.2 hms)) rfl
    subst h0 h1
    exact this
  have h2 : (0 : Int) ≤ (n : Int) := Int.natCast_nonneg _
  have h1 : ((n + 1 : Nat) : Int) = (n : Int) + 1 := by push_cast; rfl
  have h3 : (((n + 1 : Nat) : Int) == 0) = false := by rw [beq_eq_false_iff_ne]; omega
  replace hn := Lib.hid hn
  clear h hM ht hfin
  go_enter Tryd.func11, Tryd.ntmps11
  go_wp2_with fail
  all_goals
    go_ret2
    first | exact ⟨rfl, hP1.out⟩ | (have h1 : c = 1 := (by first | assumption | omega); subst h1; exact ⟨rfl, hP0.out rfl⟩)
theorem turn_empty (h : RQ w R m v []) : Calls Tryd.prog 15 #[.pointer (some ⟨R, 0, none⟩)] w fun e w' => e = .returned (.int .i64 11) ∧ w = w' := by
  have hp := Lib.hid (take_empty h)
  clear h
  go_enter Tryd.func15, Tryd.ntmps15
  go_wp2_with fail
  refine hp.out.mono ?_; rintro e w7 ⟨rfl, rfl⟩
  go_wp2_with fail
  go_ret
  exact ⟨rfl, rfl⟩
theorem Post.then {W : World} {v1 : Value} {ms1 ms2 : List Int} (h1 : RQ W R m v1 ms1) (hF : Fr (OwnQ R v) w W) (hat : ∀ b, v1.ownBlock = some b → v.ownBlock = some b ∨ w.heap.size ≤ b) (h2 : Post W R m v1 ms2 w') : Post w R m v ms2 w' := by
  obtain ⟨v2, hR, hF2, hat2⟩ := h2
  refine ⟨v2, hR, ?_, fun b hb => ?_⟩
  · have f2 : Fr (fun k => OwnQ R v k ∨ w.heap.size ≤ k) w w' := (hF.mono fun k _ => Or.inl).trans (hF2.mono fun k _ hk => by
      rcases hk with e | e
      · exact .inl (.inl e)
      · exact (hat k e).imp .inr id)
    exact f2.mono fun k hk h => h.resolve_right (by omega)
  · rcases hat2 b hb with h | h
    · exact hat b h
    · exact .inr (Nat.le_trans hF.size h)
set_option maxRecDepth 100000 in
set_option maxHeartbeats 1000000 in
theorem turn_ok (x : Int) (h : RQ w R m v (x :: ms)) (h64 : ms.length ≤ 2000) : Calls Tryd.prog 15 #[.pointer (some ⟨R, 0, none⟩)] w fun e w' => e = .returned (.int .i64 0) ∧ Post w R m v (ms ++ [x]) w' := by
  obtain ⟨i0, hi, hz0, hz1, hz2⟩ := info_parts infoInt
  have hp := Lib.hid (take_ok x h h64)
  have hl := Lib.hid h64
  clear h h64
  go_enter Tryd.func15, Tryd.ntmps15
  go_wp2_with fail
  refine hp.out.mono ?_; rintro e W ⟨rfl, v1, hR1, hF1, hat1⟩
  obtain ⟨A, c, rfl, -⟩ := hR1.sl.form
  obtain ⟨n, hn⟩ : ∃ n, ms.length = n := ⟨_, rfl⟩
  rw [hn] at hR1 hat1 hl
  replace hn := Lib.hid hn
  have hW := Lib.hid hR1
  have hF := Lib.hid hF1
  have hat := Lib.hid hat1
  clear hR1 hF1 hat1 hp
  have c0 := hW.out.c0
  have hWA : Hid (RQ (W.alloc (.cells #[.int .i64 x] 3)) R m (.slice A n c) ms) := hW.out.keep (World.grownBy_alloc _ _ none)
  have hFA : Hid (Fr (OwnQ R (.slice A n c)) W (W.alloc (.cells #[.int .i64 x] 3))) := (Fr.refl _ W).alloc _
  go_wp2_with (at_builtin; refine wpList_append_qs _ rfl _ _ 46 rfl 3 i0 Tryd.underlying46 hi hz0 hz1 hz2 (.slice A n c) ms rfl hWA.out.sl ⟨W.heap.size, 0, none⟩ 1 x rfl (cell_one_new _ _ _) (by rw [hn.out]; exact hl.out) ?_; intro v' w5 hM5 hgrow hat5; obtain ⟨A5, c5, rfl, -⟩ := hM5.form; obtain ⟨hu0, hf0, hP⟩ := fin hWA.out hFA.out hM5 hgrow hat5; clear hM5 hgrow hat5)
  go_ret
  exact ⟨rfl, Post.then hW.out hF.out hat.out (by rw [List.length_append] at hP; exact hP)⟩
theorem remove_no (x : Int) (h : RQ w R m v ms) (hl : ms.length ≤ 2000) (hno : x ∉ ms) : Calls Tryd.prog 13 #[.pointer (some ⟨R, 0, none⟩), .int .i64 x] w fun e w' => e = .returned (.int .i64 1) ∧ w = w' := by
  have hat := Lib.hid (at_ok x h hl)
  replace hno := Lib.hid hno
  clear h
  go_enter Tryd.func13, Tryd.ntmps13
  go_wp2_with fail
  refine hat.out.mono ?_; rintro e w1 ⟨r, rfl, hF, rfl⟩
  have hr : decide (r < 0) = true := decide_eq_true (by
    rcases fst_mem hF with h | h
    · exact absurd h.2 hno.out
    · omega)
  clear hF
  go_wp2_with fail
  go_ret
  exact ⟨rfl, rfl⟩
theorem list_ok (h : RQ w R m v ms) (h64 : ms.length ≤ 2000) : Calls Tryd.prog 18 #[.pointer (some ⟨R, 0, none⟩)] w fun e w' => ∃ u, e = .returned u ∧ Mine w' w.heap.size 3 .i64 u ms ∧ w.grownBy w' none := by
  obtain ⟨i0, hi, hz0, hz1, hz2⟩ := info_parts infoInt
  obtain ⟨A, c, rfl, hsl⟩ := h.sl.form
  have c0 := h.c0
  obtain ⟨n, hn⟩ : ∃ n, ms.length = n := ⟨_, rfl⟩
  rw [hn] at c0 h64
  replace hn := Lib.hid hn
  replace hsl := Lib.hid hsl
  clear h
  go_enter Tryd.func18, Tryd.ntmps18
  go_wp2_with (at_builtin; refine wpList_join rfl _ _ 46 rfl w.heap.size 3 i0 Tryd.underlying46 hi hz0 hz1 hz2 (.slice none 0 0) [] A n c 0 w.heap.size ms rfl (Mine.nil _ _ _ _) rfl hsl.out hn.out h64 (by simp) (Nat.le_refl _) ?_; intro v' w5 hM5 hgrow; obtain ⟨A5, c5, rfl, -⟩ := hM5.form)
  go_ret
  obtain ⟨r, hg, hr⟩ := hgrow
  exact ⟨_, rfl, hM5, ⟨hg.os, hg.tape, hg.output, hg.size, fun k hk _ => hg.block k hk (fun e => by have := hr k e.symm; omega)⟩⟩
theorem sl_take {w : World} {lo hi : Nat} {k : IntKind} {A : Option Addr} {xs : List Int} (h : SlA w lo hi k A xs) (m : Nat) : SlA w lo hi k A (xs.take m) := by
  refine ⟨h.1, ?_⟩
  rcases h.2 with rfl | ⟨b, o, hA, h1, h2, hc⟩
  · left; simp
  · right; exact ⟨b, o, hA, h1, h2, fun i hi => by
      have := hc i (by simp at hi; omega)
      rw [this]; simp⟩
theorem sl_drop {w : World} {lo hi : Nat} {k : IntKind} {b o : Nat} {xs : List Int} (h : SlA w lo hi k (some ⟨b, o, none⟩) xs) (m : Nat) : SlA w lo hi k (some ⟨b, o + m, none⟩) (xs.drop m) := by
  refine ⟨h.1, ?_⟩
  rcases h.2 with rfl | ⟨b', o', hA, h1, h2, hc⟩
  · left; simp
  · cases hA
    right; exact ⟨b, o + m, rfl, h1, h2, fun i hi => by
      have := hc (m + i) (by simp at hi; omega)
      rw [show o + m + i = o + (m + i) by omega, this]; simp⟩
set_option maxRecDepth 100000 in
set_option maxHeartbeats 2000000 in
theorem remove_ok (x : Int) (h : RQ w R m v ms) (hl : ms.length ≤ 1000) (hmem : x ∈ ms) : Calls Tryd.prog 13 #[.pointer (some ⟨R, 0, none⟩), .int .i64 x] w fun e w' => e = .returned (.int .i64 0) ∧ ∃ j, j < ms.length ∧ gd ms j = x ∧ (∀ i, i < j → gd ms i ≠ x) ∧ Post w R m v (ms.take j ++ ms.drop (j + 1)) w' := by
  obtain ⟨i0, hi, hz0, hz1, hz2⟩ := info_parts infoInt
  have hat := Lib.hid (at_ok x h (by omega))
  obtain ⟨b, o, c, rfl, hsl, hc⟩ : ∃ b o c, v = .slice (some ⟨b, o, none⟩) ms.length c ∧ SlA w 0 w.heap.size .i64 (some ⟨b, o, none⟩) ms ∧ ms.length ≤ c := by
    rcases h.sl with ⟨-, h⟩ | hM
    · subst h; cases hmem
    · obtain ⟨b, o, c, rfl, h2, h3, h4, h5⟩ := hM
      exact ⟨b, o, c, rfl, MineO.sl ⟨b, o, c, rfl, h2, h3, h4, h5⟩, h4⟩
  have c0 := h.c0
  replace hmem := Lib.hid hmem
  obtain ⟨n, hn⟩ : ∃ n, ms.length = n := ⟨_, rfl⟩
  rw [hn] at hl hc c0 h ⊢
  replace hn := Lib.hid hn
  have hR := Lib.hid h
  have hS := Lib.hid hsl
  clear h hsl
  go_enter Tryd.func13, Tryd.ntmps13
  go_wp2_with fail
  refine hat.out.mono ?_; rintro e w1 ⟨r, rfl, hF, rfl⟩
  rcases hF with ⟨j, rfl, hj1, hj2, hj3⟩ | ⟨-, hno⟩
  rotate_left
  · obtain ⟨i, hi1, hi2⟩ := mem_iff_gd.1 hmem.out
    exact absurd hi2 (hno i hi1)
  rw [hn.out] at hj1
  have hr : decide ((j : Int) < 0) = false := decide_eq_false (by omega)
  replace hj2 := Lib.hid hj2
  replace hj3 := Lib.hid hj3
  have hs1 : Hid (SlA w 0 w.heap.size .i64 (some ⟨b, o, none⟩) (ms.take j)) := sl_take hS.out j
  have hl1 : Hid ((ms.take j).length = j) := by show _ = _; rw [List.length_take, hn.out]; omega
  have hl2 : Hid ((ms.drop (j + 1)).length = n - (j + 1)) := by show _ = _; rw [List.length_drop, hn.out]
  have hjc : j ≤ c := by omega
  have hj1c : j + 1 ≤ c := by omega
  have hjn : j + 1 ≤ n := by omega
  have hjI : (j : Int) < (n : Int) := by omega
  have h2 : (0 : Int) ≤ (j : Int) := Int.natCast_nonneg _
  clear hat
  go_wp2_with (at_builtin; first
    | (refine wpList_join rfl _ _ 46 rfl w.heap.size 3 i0 Tryd.underlying46 hi hz0 hz1 hz2 (.slice none 0 0) [] (some ⟨b, o, none⟩) j c 0 w.heap.size (ms.take j) rfl (Mine.nil _ _ _ _) rfl hs1.out hl1.out (by omega) (by simp) (Nat.le_refl _) ?_; intro v1 w1 hM1 hg1; have hG1 := Lib.hid (grown_two (grown_refl w none) hg1); have hR1 := Lib.hid (hR.out.keep hG1.out); have c01 := hR1.out.c0; have hs2 : Hid (SlA w1 0 w.heap.size .i64 (some ⟨b, o + (j + 1), none⟩) (ms.drop (j + 1))) := (sl_drop hS.out (j + 1)).kept hG1.out (by simp); replace hM1 := Lib.hid hM1)
    | (refine wpList_join rfl _ _ 46 rfl w.heap.size 3 i0 Tryd.underlying46 hi hz0 hz1 hz2 v1 ([] ++ ms.take j) (if c = j + 1 then some ⟨b, o, none⟩ else some ⟨b, o + (j + 1), none⟩) (n - (j + 1)) _ 0 w.heap.size (ms.drop (j + 1)) rfl hM1.out rfl (by
        split
        · have e : ms.drop (j + 1) = [] := List.drop_eq_nil_of_le (by rw [hn.out]; omega)
          rw [e]; exact ⟨hG1.out.size, .inl rfl⟩
        · exact hs2.out) hl2.out (by omega) (by rw [List.nil_append, hl1.out]; omega) hG1.out.size ?_; intro v2 w2 hM2 hg2; have hMV : Mine w2 w.heap.size 3 .i64 v2 (ms.take j ++ ms.drop (j + 1)) := (by simpa using hM2); obtain ⟨A2, c2, e2, -⟩ := hMV.form; obtain ⟨L2, hL2⟩ : ∃ L2, (ms.take j ++ ms.drop (j + 1)).length = L2 := ⟨_, rfl⟩; rw [hL2] at e2; obtain ⟨hu0, hf0, hP⟩ := fin3 hR.out (Fr.refl _ w) hMV (grown_two hG1.out hg2); subst e2; clear hM2 hMV hg2 hL2))
  all_goals
    go_ret
    first | exact ⟨rfl, j, by omega, hj2.out, hj3.out, hP⟩ | (have h9 : c = j + 1 := (by omega); subst h9; exact ⟨rfl, j, by omega, hj2.out, hj3.out, hP⟩)
end RefG
end Go.Proofs.YtmjcanamfijdjaaDoor
