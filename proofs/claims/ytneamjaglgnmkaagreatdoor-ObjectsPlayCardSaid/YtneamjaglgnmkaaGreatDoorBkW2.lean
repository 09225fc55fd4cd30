/- The book: a list of ints is kept. -/
import Derived.Test.YtneamjaglgnmkaaGreatDoorBkW
namespace Go.Proofs.YtneamjaglgnmkaaGreatDoor
open Go.RowKit Go.Shelf Tk
set_option linter.unusedVariables false
set_option linter.unusedSimpArgs false
namespace BkWord
variable {w w' : World} {K : Nat} {rv : Value} {q : Nat} {V U : Nat → Value}
theorem zeroH (w : World) : (zeroValue 123).run Tryz.prog w = .ok (.agg #[.slice none 0 0, .slice none 0 0, .int .i64 0]) w := by kernel_rfl
set_option maxRecDepth 100000 in
set_option maxHeartbeats 4000000 in
theorem keep_ok (h : Bk w K rv q V U) (hq : q ≤ 1000) (A : Option Addr) (n c : Nat) :
    Calls Tryz.prog 63 #[.pointer (some ⟨K, 0, none⟩), .slice A n c] w fun e w' => (∃ x, e = .returned x) ∧
      ∃ g cap, Bk w' K (.slice (some ⟨g, 0, none⟩) (q + 1) cap) (q + 1) (up V q (.slice A n c)) (up U q (.slice none 0 0)) ∧ (rv.ownBlock = some g ∨ w.heap.size ≤ g) ∧ Fr (OwnB K rv) w w' := by
  obtain ⟨i0, hi0, hz0, hz1, hz2⟩ := info_parts infoH
  have hz := zeroH
  obtain ⟨A1, c1, rfl, hqc, -⟩ := h.form
  have hc0 := h.c0
  have hf0 := h.hdr.frozen 0
  have hf3 := h.hdr.frozen 2
  have hKl := h.hdr.lt
  have g1 := grownBy_setCell w K 0 (.int .i64 ((q : Int) + 1))
  have hA1 := h.hdr.set (k := 0) (by decide) (.int .i64 ((q : Int) + 1))
  have hrow := World.ownsRow.kept h.row g1 (by
    rcases hv : (Value.slice A1 q c1).ownBlock with _ | b
    · exact .inl rfl
    · right; intro e; cases e; exact h.ne hv)
  obtain ⟨w1, hw1⟩ : ∃ w1, w.setCell ⟨K, 0, none⟩ (.int .i64 ((q : Int) + 1)) = w1 := ⟨_, rfl⟩
  rw [hw1] at g1 hA1 hrow
  have e0 := hA1.cell (i := 0) (by decide)
  have e3 := hA1.cell (i := 2) (by decide)
  rw [if_pos rfl] at e0
  rw [if_neg (by decide)] at e3
  replace e3 : w1.cell? ⟨K, 2, none⟩ = some (.slice A1 q c1) := e3
  have f3 := hA1.frozen 2
  have hqI : (q : Int) ≤ 1000 := by omega
  have hq0 : (0 : Int) ≤ (q : Int) := Int.natCast_nonneg _
  replace h := Lib.hid h
  go_enter Tryz.func63, Tryz.ntmps63
  go_wp2_with fail
  clear hc0 hf0 hf3 hw1
  have hKl1 : K < w1.heap.size := hA1.lt
  have hrowA : Hid ((w1.alloc (.cells #[.slice A n c, .slice none 0 0, .int .i64 ((q : Int) + 1)] 123)).drew.ownsRow 0 123 3 (.slice A1 q c1) q (rows V U q)) := World.ownsRow.alloc (w := w1) hrow _
  have hnews : Hid (∀ j u, [Value.slice A n c, .slice none 0 0, .int .i64 ((q : Int) + 1)][j]? = some u → (w1.alloc (.cells #[.slice A n c, .slice none 0 0, .int .i64 ((q : Int) + 1)] 123)).drew.cell? ((⟨w1.heap.size, 0, none⟩ : Addr).add j) = some u) :=
    World.news_of_block (_root_.Go.heap_alloc_new w1 _)
  have hKa : Hid (K < ((w1.alloc (.cells #[.slice A n c, .slice none 0 0, .int .i64 ((q : Int) + 1)] 123)).drew).heap.size) := by show K < (w1.alloc _).heap.size; simp; omega
  have hK3 : Hid (((w1.alloc (.cells #[.slice A n c, .slice none 0 0, .int .i64 ((q : Int) + 1)] 123)).drew).cell? ⟨K, 2, none⟩ = some (.slice A1 q c1)) := (hA1.alloc _).cell (i := 2) (by decide) |>.trans (by rfl)
  have hK0 : Hid (((w1.alloc (.cells #[.slice A n c, .slice none 0 0, .int .i64 ((q : Int) + 1)] 123)).drew).cell? ⟨K, 0, none⟩ = some (.int .i64 ((q : Int) + 1))) := (hA1.alloc _).cell (i := 0) (by decide) |>.trans (by rfl)
  have hKf : Hid (((w1.alloc (.cells #[.slice A n c, .slice none 0 0, .int .i64 ((q : Int) + 1)] 123)).drew).frozen? ⟨K, 2, none⟩ = false) := (hA1.alloc _).frozen 2
  have hneK : Hid (some K ≠ (Value.slice A1 q c1).ownBlock) := fun e => h.out.ne e.symm
  have hK3' := hK3.out
  have e3d : w1.drew.cell? ⟨K, 2, none⟩ = some (.slice A1 q c1) := e3
  have e0d : w1.drew.cell? ⟨K, 0, none⟩ = some (.int .i64 ((q : Int) + 1)) := e0
  go_region_law ((refine step_append_lies (w := (w1.alloc (.cells #[.slice A n c, .slice none 0 0, .int .i64 ((q : Int) + 1)] 123)).drew) rfl _ _ 42 rfl 0 123 i0 (.agg #[.slice none 0 0, .slice none 0 0, .int .i64 0]) 3 56 Tryz.underlying42 hi0 hz0 hz1 hz2 rfl (by decide) (.slice A1 q c1) q (rows V U q) rfl hrowA.out ⟨w1.heap.size, 0, none⟩ 1 1 [.slice A n c, .slice none 0 0, .int .i64 ((q : Int) + 1)] rfl rfl hnews.out (by simp [Value.oneCell']) (by decide) (by unfold maxLen; omega) (by omega) (Nat.zero_le _) _ rfl ?_; intro gg cap w2 hown2 hgrow2 hat hlt2; have e32 : w2.cell? ⟨K, 2, none⟩ = some (.slice A1 q c1) := (hgrow2.cell_far ⟨K, 2, none⟩ hKa.out hneK.out).trans hK3.out; have f32 : w2.frozen? ⟨K, 2, none⟩ = false := (hgrow2.frozen_far ⟨K, 2, none⟩ hKa.out hneK.out).trans hKf.out))
  all_goals
    have hKl2 : K < w2.heap.size := Nat.lt_of_lt_of_le hKa.out hgrow2.size
    have hggK : gg ≠ K := by
      rcases hat with hat | hat
      · exact fun e => hneK.out (by rw [hat, e])
      · rw [hat]; exact fun e => by have := hKa.out; omega
    have hA2 : Arr w2 K 9 (fun i => if i = 0 then Value.int .i64 ((q : Int) + 1) else bv q (.slice A1 q c1) i) := ((hA1.alloc _).drew).kept hgrow2 (fun e => hneK.out e.symm)
    have gS := grownBy_setCell w2 K 2 (.slice (some ⟨gg, 0, none⟩) (q + 1) cap)
    have hA3 := hA2.set (k := 2) (by decide) (.slice (some ⟨gg, 0, none⟩) (q + 1) cap)
    have hB : Bk (w2.setCell ⟨K, 2, none⟩ (.slice (some ⟨gg, 0, none⟩) (q + 1) cap)) K (.slice (some ⟨gg, 0, none⟩) (q + 1) cap) (q + 1) (up V q (.slice A n c)) (up U q (.slice none 0 0)) := by
      refine ⟨hA3.congr fun i hi => ?_, ?_, ?_⟩
      · unfold bv
        by_cases e3 : i = 2
        · subst e3; rw [if_pos rfl, if_neg (by decide), if_pos rfl]
        · rw [if_neg e3]
          by_cases e0 : i = 0
          · rw [if_pos e0, if_pos e0]; push_cast; rfl
          · rw [if_neg e0, if_neg e0, if_neg e3, if_neg e0, if_neg e3]
      · have hr3 := World.ownsRow.kept hown2 gS (.inr (by simp [Value.ownBlock]; exact hggK))
        rw [rows_snoc, up_same, up_same]
        rw [rows_congr (V := up V q (.slice A n c)) (U := up U q (.slice none 0 0)) (V' := V) (U' := U) (fun i hi => up_ne _ _ (by omega)) (fun i hi => up_ne _ _ (by omega))]
        have : ((q + 1 : Nat) : Int) = (q : Int) + 1 := by push_cast; rfl
        rw [this]
        exact hr3
      · simp [Value.ownBlock]; exact hggK
    have hfr : Fr (OwnB K (.slice A1 q c1)) w (w2.setCell ⟨K, 2, none⟩ (.slice (some ⟨gg, 0, none⟩) (q + 1) cap)) := by
      have f1 : Fr (OwnB K (.slice A1 q c1)) w w1 := Fr.of_grown g1 (fun k e _ => by cases e; exact .inl rfl)
      have f2 : Fr (OwnB K (.slice A1 q c1)) w1 w2 := ((Fr.refl _ w1).alloc _).drew.trans (Fr.of_grown hgrow2 (fun k e _ => .inr e))
      exact (f1.trans f2).trans (Fr.of_grown gS (fun k e _ => by cases e; exact .inl rfl))
    have hat2 : (Value.slice A1 q c1).ownBlock = some gg ∨ w.heap.size ≤ gg := by
      rcases hat with hat | hat
      · exact .inl hat
      · right
        rw [hat]
        show w.heap.size ≤ (w1.alloc _).heap.size
        have := g1.size
        simp; omega
    go_wp2_with fail
    refine bodyPost_end (results_none rfl _ _ _) rfl ?_
    exact ⟨⟨_, rfl⟩, gg, cap, hB, hat2, hfr⟩
end BkWord
end Go.Proofs.YtneamjaglgnmkaaGreatDoor
