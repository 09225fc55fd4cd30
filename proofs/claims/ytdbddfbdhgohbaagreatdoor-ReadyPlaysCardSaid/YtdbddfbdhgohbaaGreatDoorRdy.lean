/- Package ready: the queue in memory. -/
import Derived.Test.YtdbddfbdhgohbaaGreatDoorLadSt
import Derived.Test.YtdbddfbdhgohbaaGreatDoorRing5
import Derived.Test.YtdbddfbdhgohbaaGreatDoorRdyM
import Derived.Test.YtdbddfbdhgohbaaGreatDoorLad
namespace Go.Proofs.YtdbddfbdhgohbaaGreatDoor
open Go.RowKit Go.Shelf Tk Tk.Lad Tk.Rdy
set_option linter.unusedVariables false
set_option linter.unusedSimpArgs false

/-- A queue's own cells: which ranks have somebody, the rings, the ranks and 1. -/
def qv (Bs rk : Nat → Nat) (has : Nat) (i : Nat) : Value := if i = 0 then .int .u32 has else if i ≤ 32 then .pointer (some ⟨Bs (i - 1), 0, none⟩) else .int .i64 (rk (i - 33))
/-- The queue's blocks. -/
def OwnQ (Q : Nat) (Bs Ms : Nat → Nat) (k : Nat) : Prop := k = Q ∨ ∃ r, r < 32 ∧ (k = Bs r ∨ k = Ms r)
structure Rq (w : World) (Q : Nat) (Bs Ms : Nat → Nat) (ls : Nat → List Int) (rk : Nat → Nat) (has : Nat) : Prop where
  hdr : Arr w Q 289 (qv Bs rk has)
  rg : ∀ r, r < 32 → ∃ f c, Rg w (Bs r) (Ms r) 256 (ls r) f c
  ap : ∀ r, r < 32 → Bs r ≠ Q ∧ Ms r ≠ Q
  ap2 : ∀ r s, r < 32 → s < 32 → r ≠ s → Bs r ≠ Bs s ∧ Bs r ≠ Ms s ∧ Ms r ≠ Bs s ∧ Ms r ≠ Ms s
section
variable {w w' : World} {Q : Nat} {Bs Ms : Nat → Nat} {ls : Nat → List Int} {rk : Nat → Nat} {has : Nat}
theorem Rq.c0 (h : Rq w Q Bs Ms ls rk has) : w.cell? ⟨Q, 0, none⟩ = some (.int .u32 has) := h.hdr.cell (i := 0) (by decide)
theorem Rq.cl (h : Rq w Q Bs Ms ls rk has) {r : Nat} (hr : r < 32) : w.cell? ⟨Q, 1 + r, none⟩ = some (.pointer (some ⟨Bs r, 0, none⟩)) := by
  have := h.hdr.cell (i := 1 + r) (by omega)
  rw [this]
  unfold qv
  rw [if_neg (by omega), if_pos (by omega), show 1 + r - 1 = r by omega]
theorem Rq.cr (h : Rq w Q Bs Ms ls rk has) {u : Nat} (hu : u < 256) : w.cell? ⟨Q, 33 + u, none⟩ = some (.int .i64 (rk u)) := by
  have := h.hdr.cell (i := 33 + u) (by omega)
  rw [this]
  unfold qv
  rw [if_neg (by omega), if_neg (by omega), show 33 + u - 33 = u by omega]
theorem Rq.keep (h : Rq w Q Bs Ms ls rk has) (hg : w.grownBy w' none) : Rq w' Q Bs Ms ls rk has :=
  ⟨h.hdr.kept hg (by simp), fun r hr => by obtain ⟨f, c, hR⟩ := h.rg r hr; exact ⟨f, c, hR.keep hg⟩, h.ap, h.ap2⟩
theorem Rq.there (h : Rq w Q Bs Ms ls rk has) : Calls Tryz.prog 27 #[.pointer (some ⟨Q, 0, none⟩)] w fun e w' => e = .returned (.bool true) ∧ w = w' := by
  have hc := h.cl (r := 0) (by decide)
  go_enter Tryz.func27, Tryz.ntmps27
  go_wp2
  go_ret
  exact ⟨rfl, rfl⟩
theorem rankless_ok (r : Int) (h0 : 0 ≤ r) (h1 : r ≤ 31) (w : World) : Calls Tryz.prog 30 #[.int .i64 r] w fun e w' => e = .returned (.bool false) ∧ w = w' := by
  have d0 : decide (r < 0) = false := decide_eq_false (by omega)
  have d1 : decide (31 < r) = false := decide_eq_false (by omega)
  clear h0 h1
  go_enter Tryz.func30, Tryz.ntmps30
  go_wp2
  go_ret
  exact ⟨rfl, rfl⟩
theorem rankless_no (r : Int) (h : ¬ (0 ≤ r ∧ r ≤ 31)) (w : World) : Calls Tryz.prog 30 #[.int .i64 r] w fun e w' => e = .returned (.bool true) ∧ w = w' := by
  have hd : decide (r < 0) = true ∨ (decide (r < 0) = false ∧ decide (31 < r) = true) := by
    simp only [decide_eq_true_eq, decide_eq_false_iff_not]; omega
  clear h
  rcases hd with d0 | ⟨d0, d1⟩
  all_goals
    go_enter Tryz.func30, Tryz.ntmps30
    go_wp2
    go_ret
    exact ⟨rfl, rfl⟩
theorem _root_.Go.Proofs.YtdbddfbdhgohbaaGreatDoor.Rg.fr {w w' : World} {B M m : Nat} {ns : List Int} {f : Nat} {c : Nat → Int} {S : Nat → Prop} (h : Rg w B M m ns f c) (g : Fr S w w') (hB : ¬ S B) (hM : ¬ S M) : Rg w' B M m ns f c :=
  ⟨h.hdr.fr g hB, h.blk.fr g hM, h.ne, h.fl, h.le, h.mm, h.get⟩
/-- A step on one ring. -/
theorem Rq.ring (h : Rq w Q Bs Ms ls rk has) {r : Nat} (hr : r < 32) {l' : List Int} (hR : ∃ f c, Rg w' (Bs r) (Ms r) 256 l' f c) (g : Fr (BM (Bs r) (Ms r)) w w') : Rq w' Q Bs Ms (upd ls r l') rk has := by
  obtain ⟨a1, a2⟩ := h.ap r hr
  refine ⟨h.hdr.fr g (by rintro (e | e) <;> simp_all), fun s hs => ?_, h.ap, h.ap2⟩
  by_cases e : s = r
  · subst e; rw [upd_same]; exact hR
  · rw [upd_ne _ _ e]
    obtain ⟨f, c, hS⟩ := h.rg s hs
    obtain ⟨q1, q2, q3, q4⟩ := h.ap2 s r hs hr e
    exact ⟨f, c, hS.fr g (by rintro (e | e) <;> simp_all) (by rintro (e | e) <;> simp_all)⟩
theorem Rq.own (r : Nat) (hr : r < 32) {w w' : World} (g : Fr (BM (Bs r) (Ms r)) w w') : Fr (OwnQ Q Bs Ms) w w' := g.mono fun k _ hk => .inr ⟨r, hr, hk⟩
/-- A store into the queue's own cells. -/
theorem Rq.store (h : Rq w Q Bs Ms ls rk has) (g : w.grownBy w' (some Q)) {rk' : Nat → Nat} {has' : Nat} (hA : Arr w' Q 289 (qv Bs rk' has')) : Rq w' Q Bs Ms ls rk' has' := by
  have gf : Fr (fun k => k = Q) w w' := Fr.of_grown g (fun k e _ => by cases e; rfl)
  exact ⟨hA, fun s hs => by obtain ⟨f, c, hS⟩ := h.rg s hs; obtain ⟨a1, a2⟩ := h.ap s hs; exact ⟨f, c, hS.fr gf a1 a2⟩, h.ap, h.ap2⟩
theorem fr_q {w w' : World} (g : w.grownBy w' (some Q)) : Fr (OwnQ Q Bs Ms) w w' := Fr.of_grown g (fun k e _ => by cases e; exact .inl rfl)
theorem Rq.set_rk (h : Rq w Q Bs Ms ls rk has) {u : Nat} (hu : u < 256) (x : Nat) : Rq (w.setCell ⟨Q, 33 + u, none⟩ (.int .i64 x)) Q Bs Ms ls (upd rk u x) has := by
  refine h.store (grownBy_setCell _ _ _ _) ((h.hdr.set (k := 33 + u) (by omega) _).congr fun i hi => ?_)
  unfold qv upd
  by_cases e : i = 33 + u
  · subst e; rw [if_pos rfl, if_neg (by omega), if_neg (by omega), if_pos (by omega)]
  · rw [if_neg e]
    by_cases e0 : i = 0
    · rw [if_pos e0, if_pos e0]
    · rw [if_neg e0, if_neg e0]
      by_cases e1 : i ≤ 32
      · rw [if_pos e1, if_pos e1]
      · rw [if_neg e1, if_neg e1, if_neg (by omega)]
theorem Rq.set_has (h : Rq w Q Bs Ms ls rk has) (x : Nat) : Rq (w.setCell ⟨Q, 0, none⟩ (.int .u32 x)) Q Bs Ms ls rk x := by
  refine h.store (grownBy_setCell _ _ _ _) ((h.hdr.set (k := 0) (by omega) _).congr fun i hi => ?_)
  unfold qv
  by_cases e0 : i = 0
  · rw [if_pos e0, if_pos e0]
  · rw [if_neg e0, if_neg e0, if_neg e0]
set_option maxRecDepth 100000 in
set_option maxHeartbeats 2000000 in
/-- The rank of somebody who is there. -/
theorem rank_ok (h : Rq w Q Bs Ms ls rk has) {u r : Nat} (hu : u < 256) (hr : rk u = r + 1) (hr31 : r < 32) : Calls Tryz.prog 11 #[.pointer (some ⟨Q, 0, none⟩), .int .i64 u] w fun e w' => e = .returned (.tuple #[.int .i64 r, .bool true]) ∧ w = w' := by
  have hc := h.cr hu
  have hth := Lib.hid h.there
  rw [hr] at hc
  have d0 : decide ((u : Int) < 0) = false := decide_eq_false (by omega)
  have d1 : decide ((256 : Int) ≤ (u : Int)) = false := decide_eq_false (by omega)
  have u0 : (0 : Int) ≤ (u : Int) := Int.natCast_nonneg _
  have uI : (u : Int) < 256 := by omega
  have d2 : (((r + 1 : Nat) : Int) == 0) = false := by rw [beq_eq_false_iff_ne]; omega
  have hrI : (r : Int) ≤ 31 := by omega
  clear h
  replace hr := Lib.hid hr
  go_enter Tryz.func11, Tryz.ntmps11
  go_wp2_with fail
  refine hth.out.mono ?_; rintro e w' ⟨rfl, rfl⟩
  go_wp2_with fail
  go_ret2
  exact ⟨rfl, rfl⟩
set_option maxRecDepth 100000 in
set_option maxHeartbeats 2000000 in
/-- .. of somebody who is not. -/
theorem rank_no (h : Rq w Q Bs Ms ls rk has) (x : Int) (hno : ∀ u : Nat, x = u → u < 256 → rk u = 0) : Calls Tryz.prog 11 #[.pointer (some ⟨Q, 0, none⟩), .int .i64 x] w fun e w' => e = .returned (.tuple #[.int .i64 0, .bool false]) ∧ w = w' := by
  have hth := Lib.hid h.there
  by_cases hin : 0 ≤ x ∧ x < 256
  · obtain ⟨u, rfl⟩ := Int.eq_ofNat_of_zero_le hin.1
    have hu : u < 256 := by omega
    have hc := h.cr hu
    rw [hno u rfl hu] at hc
    have d0 : decide ((u : Int) < 0) = false := decide_eq_false (by omega)
    have d1 : decide ((256 : Int) ≤ (u : Int)) = false := decide_eq_false (by omega)
    have u0 : (0 : Int) ≤ (u : Int) := Int.natCast_nonneg _
    have uI : (u : Int) < 256 := by omega
    clear h hno hin
    go_enter Tryz.func11, Tryz.ntmps11
    go_wp2_with fail
    refine hth.out.mono ?_; rintro e w' ⟨rfl, rfl⟩
    go_wp2_with fail
    go_ret2
    exact ⟨rfl, rfl⟩
  · have hd : decide (x < 0) = true ∨ (decide (x < 0) = false ∧ decide ((256 : Int) ≤ x) = true) := by
      simp only [decide_eq_true_eq, decide_eq_false_iff_not]; omega
    clear h hno hin
    rcases hd with d0 | ⟨d0, d1⟩
    all_goals
      go_enter Tryz.func11, Tryz.ntmps11
      go_wp2_with fail
      refine hth.out.mono ?_; rintro e w' ⟨rfl, rfl⟩
      go_wp2_with fail
      go_ret2
      exact ⟨rfl, rfl⟩
/-- The error of somebody who comes. -/
def mayR (rk : Nat → Nat) (x r : Int) : Int := if x < 0 ∨ 255 < x ∨ r < 0 ∨ 31 < r then 1 else if rk x.toNat = 0 then 0 else 7
set_option maxRecDepth 100000 in
set_option maxHeartbeats 2000000 in
theorem mayq_any (h : Rq w Q Bs Ms ls rk has) (x r : Int) : Calls Tryz.prog 57 #[.pointer (some ⟨Q, 0, none⟩), .int .i64 x, .int .i64 r] w fun e w' => e = .returned (.int .i64 (mayR rk x r)) ∧ w = w' := by
  have hth := Lib.hid h.there
  by_cases hin : 0 ≤ x ∧ x < 256
  · obtain ⟨u, rfl⟩ := Int.eq_ofNat_of_zero_le hin.1
    have hu : u < 256 := by omega
    have hc := h.cr hu
    have d0 : decide ((u : Int) < 0) = false := decide_eq_false (by omega)
    have d1 : decide ((256 : Int) ≤ (u : Int)) = false := decide_eq_false (by omega)
    have u0 : (0 : Int) ≤ (u : Int) := Int.natCast_nonneg _
    have uI : (u : Int) < 256 := by omega
    clear h hin
    by_cases hr : 0 ≤ r ∧ r ≤ 31
    · have hrl := Lib.hid (rankless_ok r hr.1 hr.2)
      obtain ⟨m, hm, hmc⟩ : ∃ m, mayR rk (u : Int) r = m ∧ (m = 0 ∧ rk u = 0 ∨ m = 7 ∧ rk u ≠ 0) := by
        refine ⟨_, rfl, ?_⟩
        unfold mayR
        rw [if_neg (by omega), Int.toNat_natCast]
        by_cases e : rk u = 0
        · rw [if_pos e]; exact .inl ⟨rfl, e⟩
        · rw [if_neg e]; exact .inr ⟨rfl, e⟩
      rw [hm]
      generalize rk u = z at *
      clear hm hr
      rcases hmc with ⟨rfl, rfl⟩ | ⟨rfl, hz⟩
      · go_enter Tryz.func57, Tryz.ntmps57
        go_wp2_with fail
        refine hth.out.mono ?_; rintro e w' ⟨rfl, rfl⟩
        go_wp2_with fail
        refine (hrl.out _).mono ?_; rintro e w' ⟨rfl, rfl⟩
        go_wp2_with fail
        go_ret
        exact ⟨rfl, rfl⟩
      · have d2 : decide ((0 : Int) < (z : Int)) = true := decide_eq_true (by omega)
        have hz0 : 0 < z := by omega
        go_enter Tryz.func57, Tryz.ntmps57
        go_wp2_with fail
        refine hth.out.mono ?_; rintro e w' ⟨rfl, rfl⟩
        go_wp2_with fail
        refine (hrl.out _).mono ?_; rintro e w' ⟨rfl, rfl⟩
        go_wp2_with fail
        go_ret
        exact ⟨rfl, rfl⟩
    · have hm : mayR rk (u : Int) r = 1 := by unfold mayR; rw [if_pos (by omega)]
      have hrl := Lib.hid (rankless_no r hr)
      rw [hm]
      clear hm hr
      go_enter Tryz.func57, Tryz.ntmps57
      go_wp2_with fail
      refine hth.out.mono ?_; rintro e w' ⟨rfl, rfl⟩
      go_wp2_with fail
      refine (hrl.out _).mono ?_; rintro e w' ⟨rfl, rfl⟩
      go_wp2_with fail
      go_ret
      exact ⟨rfl, rfl⟩
  · have hm : mayR rk x r = 1 := by unfold mayR; rw [if_pos (by omega)]
    have hd : decide (x < 0) = true ∨ (decide (x < 0) = false ∧ decide ((256 : Int) ≤ x) = true) := by
      simp only [decide_eq_true_eq, decide_eq_false_iff_not]; omega
    rw [hm]
    clear h hin hm
    rcases hd with d0 | ⟨d0, d1⟩
    all_goals
      go_enter Tryz.func57, Tryz.ntmps57
      go_wp2_with fail
      refine hth.out.mono ?_; rintro e w' ⟨rfl, rfl⟩
      go_wp2_with fail
      go_ret
      exact ⟨rfl, rfl⟩
set_option maxRecDepth 100000 in
set_option maxHeartbeats 2000000 in
theorem came_ok (h : Rq w Q Bs Ms ls rk has) (hh : has < 4294967296) {u r : Nat} (hu : u < 256) (hr : r < 32) : Calls Tryz.prog 59 #[.pointer (some ⟨Q, 0, none⟩), .int .i64 u, .int .i64 r] w fun e w' => (∃ v, e = .returned v) ∧ Rq w' Q Bs Ms ls (upd rk u (r + 1)) (setN has r) ∧ Fr (OwnQ Q Bs Ms) w w' := by
  have hc := h.cr hu
  have hf := h.hdr.frozen (33 + u)
  have hf0 := h.hdr.frozen 0
  have u0 : (0 : Int) ≤ (u : Int) := Int.natCast_nonneg _
  have uI : (u : Int) < 256 := by omega
  have rI : (r : Int) ≤ 31 := by omega
  have r0 : (0 : Int) ≤ (r : Int) := Int.natCast_nonneg _
  have h1 := h.set_rk hu (r + 1)
  have hc1 := h1.c0
  have hf1 := h1.hdr.frozen 0
  have g1 := grownBy_setCell w Q (33 + u) (.int .i64 ((r + 1 : Nat) : Int))
  have h2 := Lib.hid (h1.set_has (setN has r))
  have g2 := Lib.hid (fr_q (Bs := Bs) (Ms := Ms) g1 |>.trans (fr_q (grownBy_setCell (w.setCell ⟨Q, 33 + u, none⟩ (.int .i64 ((r + 1 : Nat) : Int))) Q 0 (.int .u32 (setN has r)))))
  have hcast : ((r + 1 : Nat) : Int) = (r : Int) + 1 := by push_cast; rfl
  rw [hcast] at h2 g2 hc1 hf1
  clear h h1 g1 hcast
  go_enter Tryz.func59, Tryz.ntmps59
  go_wp2_with fail
  refine (set_any has hh (r : Int) _).mono ?_; rintro e w' ⟨rfl, rfl⟩
  go_wp2_with fail
  refine bodyPost_end (results_none rfl _ _ _) rfl ?_
  exact ⟨⟨_, rfl⟩, h2.out, g2.out⟩
end
end Go.Proofs.YtdbddfbdhgohbaaGreatDoor
