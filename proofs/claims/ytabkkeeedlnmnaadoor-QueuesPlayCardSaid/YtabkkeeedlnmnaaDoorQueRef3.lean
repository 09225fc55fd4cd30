/- timekeeperref11: Peek, Take, List. -/
import Derived.Test.YtabkkeeedlnmnaaDoorQueRef2
namespace Go.Proofs.YtabkkeeedlnmnaaDoor
open Go.RowKit Go.Shelf Tk
set_option linter.unusedVariables false
set_option linter.unusedSimpArgs false
namespace RefQ
variable {w w' : World} {R m : Nat} {v : Value} {ms : List Int}
theorem peek_empty (h : RQ w R m v []) : Calls Tryd.prog 52 #[.pointer (some ⟨R, 0, none⟩)] w fun e w' => e = .returned (.tuple #[.int .u32 0, .int .i64 11]) ∧ w = w' := by
  obtain ⟨A, c, rfl, -⟩ := h.sl.form
  have c0 : w.cell? ⟨R, 0, none⟩ = some (.slice A 0 c) := h.c0
  clear h
  go_enter Tryd.func52, Tryd.ntmps52
  go_wp2_with fail
  go_ret2
  exact ⟨rfl, rfl⟩
theorem peek_ok (x : Int) (h : RQ w R m v (x :: ms)) (h64 : ms.length ≤ 1000) : Calls Tryd.prog 52 #[.pointer (some ⟨R, 0, none⟩)] w fun e w' => e = .returned (.tuple #[.int .u32 x, .int .i64 0]) ∧ w = w' := by
  obtain ⟨b, o, c, rfl, hx⟩ : ∃ b o c, v = .slice (some ⟨b, o, none⟩) (ms.length + 1) c ∧ w.cell? ⟨b, o, none⟩ = some (.int .u32 x) := by
    rcases h.sl with ⟨-, h⟩ | ⟨b, o, c, rfl, -, -, -, -, -, h6⟩
    · cases h
    · exact ⟨b, o, c, by simp, by have := h6 0 (by simp); simpa [gd] using this⟩
  have c0 := h.c0
  obtain ⟨n, hn⟩ : ∃ n, ms.length = n := ⟨_, rfl⟩
  rw [hn] at c0 h64
  have h1 : ((n + 1 : Nat) : Int) = (n : Int) + 1 := by push_cast; rfl
  have h2 : (0 : Int) ≤ (n : Int) := Int.natCast_nonneg _
  have h3 : (((n + 1 : Nat) : Int) == 0) = false := by rw [beq_eq_false_iff_ne]; omega
  clear h hn
  go_enter Tryd.func52, Tryd.ntmps52
  go_wp2_with fail
  go_ret2
  exact ⟨rfl, rfl⟩
theorem take_empty (h : RQ w R m v []) : Calls Tryd.prog 50 #[.pointer (some ⟨R, 0, none⟩)] w fun e w' => e = .returned (.tuple #[.int .u32 0, .int .i64 11]) ∧ w = w' := by
  have hp := Lib.hid (peek_empty h)
  clear h
  go_enter Tryd.func50, Tryd.ntmps50
  go_wp2_with (first | (go_at_call 52; refine hp.out.mono ?_; rintro e w7 ⟨rfl, rfl⟩))
  go_ret2
  exact ⟨rfl, rfl⟩
set_option maxHeartbeats 1000000 in
theorem take_ok (x : Int) (h : RQ w R m v (x :: ms)) (h64 : ms.length ≤ 1000) : Calls Tryd.prog 50 #[.pointer (some ⟨R, 0, none⟩)] w fun e w' => e = .returned (.tuple #[.int .u32 x, .int .i64 0]) ∧ Post w R m v ms w' := by
  have hp := Lib.hid (peek_ok x h h64)
  obtain ⟨b, o, c, rfl, hM, hc⟩ : ∃ b o c, v = .slice (some ⟨b, o, none⟩) (ms.length + 1) c ∧ MineO w 0 .u32 (.slice (some ⟨b, o, none⟩) (ms.length + 1) c) (x :: ms) ∧ ms.length + 1 ≤ c := by
    rcases h.sl with ⟨-, h⟩ | hM
    · cases h
    · obtain ⟨b, o, c, rfl, h2, h3, h4, h5⟩ := hM
      exact ⟨b, o, c, by simp, ⟨b, o, c, by simp, h2, h3, h4, h5⟩, by simpa using h4⟩
  have c0 := h.c0
  have f0 := h.hdr.frozen 0
  have ht := hM.tail
  have hfin : Hid (∀ u, QS w u ms → u.ownBlock = some b → w.cell? ⟨R, 0, none⟩ = w.cell? ⟨R, 0, none⟩ ∧ Post w R m (.slice (some ⟨b, o, none⟩) (ms.length + 1) c) ms (w.setCell ⟨R, 0, none⟩ u)) := fun u hu hb => by
    obtain ⟨-, -, hP⟩ := fin h (Fr.refl _ w) hu ⟨rfl, rfl, rfl, Nat.le_refl _, fun _ _ _ => rfl⟩ (fun k hk => .inl (by rw [hb] at hk; cases hk; rfl))
    exact ⟨rfl, hP⟩
  obtain ⟨n, hn⟩ : ∃ n, ms.length = n := ⟨_, rfl⟩
  rw [hn] at c0 h64 hc hfin ht ⊢
  have hP1 : Hid (Post w R m (.slice (some ⟨b, o, none⟩) (n + 1) c) ms (w.setCell ⟨R, 0, none⟩ (.slice (some ⟨b, o + 1, none⟩) n (c - 1)))) := (hfin.out _ (.inr ht.1) rfl).2
  have hP0 : Hid (c = 1 → Post w R m (.slice (some ⟨b, o, none⟩) (n + 1) c) ms (w.setCell ⟨R, 0, none⟩ (.slice (some ⟨b, o, none⟩) n (c - 1)))) := fun h1 => by
    have h0 : n = 0 := by omega
    have hms : ms = [] := List.length_eq_zero_iff.1 (hn.trans h0)
    have := (hfin.out _ (.inr (by rw [hms]; exact ht.2 hms)) rfl).2
    subst h0 h1
    exact this
  have h2 : (0 : Int) ≤ (n : Int) := Int.natCast_nonneg _
  replace hn := Lib.hid hn
  clear h hM ht hfin
  go_enter Tryd.func50, Tryd.ntmps50
  go_wp2_with (first | (go_at_call 52; refine hp.out.mono ?_; rintro e w7 ⟨rfl, rfl⟩))
  all_goals
    go_ret2
    first | exact ⟨rfl, hP1.out⟩ | (have h1 : c = 1 := (by first | assumption | omega); subst h1; exact ⟨rfl, hP0.out rfl⟩)
theorem copy_none {P : Program} {w : World} (t ty e : TypeId) (i : TypeInfo) (ht : P.underlying t = some (.slice e)) (hi : P.info? e = some i) (m c : Nat) (hm : m = 0) :
    (Builtin.append_ #[t, t] ty #[.slice none 0 0, .slice none m c]).run P w = .ok (.slice none 0 0) w := by
  subst hm
  simp [Builtin.append_, run_underlying ht, sizeOf, typeInfo, hi, Builtin.lenOf, Builtin.firstCells]
theorem list_ok (h : RQ w R m v ms) (h64 : ms.length ≤ 1000) : Calls Tryd.prog 54 #[.pointer (some ⟨R, 0, none⟩)] w fun e w' => ∃ u, e = .returned u ∧ Mine w' w.heap.size 22 .u32 u ms ∧ w.grownBy w' none := by
  obtain ⟨i0, hi, hz0, hz1, hz2⟩ := info_parts infoWord
  obtain ⟨A, c, rfl, hsl⟩ := h.sl.form
  have c0 := h.c0
  obtain ⟨n, hn⟩ : ∃ n, ms.length = n := ⟨_, rfl⟩
  rw [hn] at c0 h64
  replace hn := Lib.hid hn
  replace hsl := Lib.hid hsl
  clear h
  go_enter Tryd.func54, Tryd.ntmps54
  go_wp2_with (at_builtin; refine wpList_join rfl _ _ 56 rfl w.heap.size 22 i0 Tryd.underlying56 hi hz0 hz1 hz2 (.slice none 0 0) [] A n c 0 w.heap.size ms rfl (Mine.nil _ _ _ _) rfl hsl.out hn.out h64 (by simp) (Nat.le_refl _) ?_; intro v' w5 hM5 hgrow; obtain ⟨A5, c5, rfl, -⟩ := hM5.form)
  go_ret
  obtain ⟨r, hg, hr⟩ := hgrow
  exact ⟨_, rfl, hM5, ⟨hg.os, hg.tape, hg.output, hg.size, fun k hk _ => hg.block k hk (fun e => by have := hr k e.symm; omega)⟩⟩
end RefQ
end Go.Proofs.YtabkkeeedlnmnaaDoor
