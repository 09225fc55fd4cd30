/- Package waits: what is refused, First, the list as the book keeps it. -/
import Derived.Test.YtiakbgdeanllnaaDoorWait7
import Derived.Test.YtiakbgdeanllnaaDoorBkM
namespace Go.Proofs.YtiakbgdeanllnaaDoor
open Go.RowKit Go.Shelf Tk
set_option linter.unusedVariables false
set_option linter.unusedSimpArgs false
/-- A list that the book may keep; its block is from base on. -/
def LgN (w : World) (base : Nat) (v : Value) (xs : List Int) : Prop := Lg w 3 .i64 v xs ∧ ∀ b, v.ownBlock = some b → base ≤ b ∧ b < w.heap.size
theorem lg_clip {w : World} {base n c : Nat} {A : Option Addr} {l : List Nd} (h : Mine w base 3 .i64 (.slice A n c) (l.map Nd.x)) : LgN w base (.slice A l.length l.length) (l.map Nd.x) := by
  obtain ⟨A', c', e, h1, h2, h3⟩ := h.form
  cases e
  rw [List.length_map] at h1 h
  rcases h3 with ⟨rfl, h4⟩ | ⟨g, rfl, h4, h5⟩
  · have : l = [] := List.map_eq_nil_iff.1 h4
    subst this
    exact ⟨.inl ⟨rfl, rfl⟩, fun b hb => by cases hb⟩
  · have h' : w.ownsRow base 3 1 (.slice (some ⟨g, 0, none⟩) l.length c) (l.map Nd.x).length ((l.map Nd.x).map (Value.int .i64)) := h
    have hR := (Rw.of_own h').1.cut (c' := l.length) (l.map Nd.x).length (Nat.le_refl _) (by rw [List.length_map]; exact Nat.le_refl _) (by omega)
    rw [List.take_length] at hR
    exact ⟨.inr ⟨g, l.length, by rw [List.length_map], hR⟩, fun b hb => by cases hb; exact ⟨h4, h5⟩⟩
section
variable {w : World} {Q : Nat} {hd : Nd} {l : List Nd}
set_option maxRecDepth 100000 in
set_option maxHeartbeats 4000000 in
theorem list_lg (hl : l.length ≤ 1000) (h : Wq w Q hd l) : Calls Tryd.prog 13 #[.pointer (some ⟨Q, 0, none⟩)] w fun e w' => ∃ u, e = .returned u ∧ LgN w' w.heap.size u (l.map Nd.x) ∧ w.grownBy w' none := by
  obtain ⟨i0, hi, hz0, hz1, hz2⟩ := info_parts infoInt
  have hq := h.q.cell
  have hK := Lib.hid (fun wr (hg : w.grownBy wr none) => h.keep hg)
  have hc0 := (Arr.c (Lnk.at (a := []) h.lk)).2.2
  go_enter Tryd.func13, Tryd.ntmps13
  go_wp2_with fail
  refine h.there.mono ?_; rintro e w' ⟨rfl, rfl⟩
  go_wp2_with fail
  go_loopw [2, 3] (fun v p wr => ∃ (a b : List Nd), Hid (l = a ++ b) ∧ p = .pointer (ptr b) ∧ Mine wr w.heap.size 3 .i64 v (a.map Nd.x) ∧ w.grownBy wr none) (fun _ p _ => mul (hd :: l) p)
  case atStart => exact ⟨[], l, rfl, rfl, Mine.nil _ _ _ _, grown_refl _ _⟩
  case round =>
    obtain ⟨a, b, hab, rfl, hM, hg⟩ := hrel
    have hws := hg.size
    clear hc0 hq
    obtain ⟨A1, k1, rfl, hc1, hc2, hF⟩ := hM.form
    have hln : a.length ≤ 1000 := by have := congrArg List.length hab.out; simp at this; omega
    rw [List.length_map] at hM hc1 ⊢
    have hAn : A1 = none → a.length = 0 ∧ k1 = 0 := fun hA => by
      subst hA
      rcases hM.2 with ⟨e, -⟩ | ⟨g, c, cur, e, -⟩
      · simp only [Value.slice.injEq, true_and] at e; exact e
      · cases e
    replace hAn := Lib.hid hAn
    cases b with
    | nil =>
      have hla : l = a := by have := hab.out; simpa using this
      rw [← hla] at hM hc1 hAn ⊢
      have hLg := Lib.hid (lg_clip hM)
      clear hF hM hln
      replace hla := Lib.hid hla
      rw [show ptr [] = none from rfl]
      go_wp2_with fail
      refine (clip_ok A1 l.length k1 hc1 hc2 hAn.out _).mono ?_; rintro e w' ⟨rfl, rfl⟩
      go_wp2_with fail
      go_ret
      exact ⟨_, rfl, hLg.out, hg⟩
    | cons m b =>
      have hW := hK.out _ hg
      have hlk := hW.lk
      rw [hab.out] at hlk
      obtain ⟨c0, c1, c2⟩ := Arr.c (Lnk.at (a := hd :: a) hlk)
      have hms : Hid (mul (hd :: l) (.pointer (ptr b)) < mul (hd :: l) (.pointer (some ⟨m.b, 0, none⟩))) := by
        have hnd := h.nd
        rw [hab.out] at hnd ⊢
        have e0 : hd :: (a ++ m :: b) = (hd :: a) ++ m :: b := rfl
        show mul (hd :: (a ++ m :: b)) (.pointer (ptr b)) < mub (hd :: (a ++ m :: b)) (.pointer (some ⟨m.b, 0, none⟩))
        rw [e0] at hnd ⊢
        rw [mub_at hnd]
        cases b with
        | nil => exact Nat.succ_pos _
        | cons y b =>
          have e2 : (hd :: a) ++ m :: y :: b = ((hd :: a) ++ [m]) ++ y :: b := by simp
          show mub ((hd :: a) ++ m :: y :: b) (.pointer (some ⟨y.b, 0, none⟩)) < _
          rw [e2, mub_at (by rw [← e2]; exact hnd)]
          simp
      have hrow : wr.ownsRow w.heap.size 3 1 (.slice A1 a.length k1) a.length ((a.map Nd.x).map (Value.int .i64)) := by
        have := hM; unfold Mine at this; rwa [List.length_map] at this
      replace hrow := Lib.hid hrow
      have hgA := World.grownBy_alloc wr (.cells #[.int .i64 m.x] 3) none
      have hlkA := hlk.keep hgA
      replace c2 : wr.cell? ⟨m.b, 2, none⟩ = some (.pointer (ptr b)) := c2
      have hm1 : Hid (∀ w', w.grownBy w' none → w'.cell? ⟨m.b, 2, none⟩ = some (.pointer (ptr b))) := fun w' g => by
        have := (hK.out _ g).lk
        rw [hab.out] at this
        exact (Arr.c (Lnk.at (a := hd :: a) this)).2.2
      have hmr : Mine (wr.alloc (.cells #[.int .i64 m.x] 3)) w.heap.size 3 .i64 (.slice A1 a.length k1) (a.map Nd.x) := hM.keep hgA
      clear hF c1 hlk hlkA
      rw [show ptr (m :: b) = some ⟨m.b, 0, none⟩ from rfl]
      go_wp2_with (at_builtin; refine wpList_append_own _ rfl _ _ 43 rfl w.heap.size 3 i0 (.int .i64 0) 1 8 Tryd.underlying43 hi hz0 hz1 hz2 rfl (by decide) (.slice A1 a.length k1) a.length ((a.map Nd.x).map (Value.int .i64)) rfl (World.ownsRow.alloc hrow.out _) ⟨wr.heap.size, 0, none⟩ 1 1 [.int .i64 m.x] rfl rfl (cell_one_new _ _ _) (by simp [Value.oneCell']) (by unfold maxLen; omega) (by omega) (by simp; omega) ?_; intro v' w5 hown hgrow _; have hgr5 : w.grownBy w5 none := hmr.far (grown_alloc hg _) (Nat.le_refl _) hgrow; have hc5 := hm1.out _ hgr5)
      go_roundw
      case rel =>
        refine ⟨a ++ [m], b, by show _ = _; rw [hab.out]; simp, rfl, ?_, hgr5⟩
        have hown' : w5.ownsRow w.heap.size 3 1 v' ((a.map Nd.x).length + 1) ((a.map Nd.x).map (Value.int .i64) ++ [.int .i64 m.x]) := by rw [List.length_map]; exact hown
        rw [List.map_append]
        exact Mine.add hown'
      case measure => exact hms.out
theorem put_bad (who rank : Int) (hb : who < 0 ∨ rank < 0 ∨ 31 < rank) (h : Wq w Q hd l) :
    Calls Tryd.prog 11 #[.pointer (some ⟨Q, 0, none⟩), .int .i64 who, .int .i64 rank] w fun e w' => e = .returned (.int .i64 1) ∧ w.grownBy w' none := by
  have hcs : decide (who < 0) = true ∨ (decide (who < 0) = false ∧ decide (rank < 0) = true) ∨ (decide (who < 0) = false ∧ decide (rank < 0) = false ∧ decide (31 < rank) = true) := by
    simp only [decide_eq_true_eq, decide_eq_false_iff_not]; omega
  have hbx := Boxed.new w 3 (.int .i64 rank)
  have hgA := World.grownBy_alloc w (.cells #[.int .i64 rank] 3) none
  have hW := h.keep hgA
  have hcx := hbx.cell
  obtain ⟨W1, hW1⟩ : ∃ W1, w.alloc (.cells #[.int .i64 rank] 3) = W1 := ⟨_, rfl⟩
  rw [hW1] at hW hgA hcx hbx
  clear hb h
  rcases hcs with p1 | ⟨p1, p2⟩ | ⟨p1, p2, p3⟩
  all_goals
    go_enter Tryd.func11, Tryd.ntmps11
    go_wp2_with fail
    refine hW.there.mono ?_; rintro e w' ⟨rfl, rfl⟩
    go_wp2_with fail
    go_ret
    exact ⟨rfl, hgA⟩
set_option maxRecDepth 100000 in
theorem remove_no (who : Int) (hno : ∀ m ∈ l, m.x ≠ who) (h : Wq w Q hd l) :
    Calls Tryd.prog 7 #[.pointer (some ⟨Q, 0, none⟩), .int .i64 who] w fun e w' => e = .returned (.int .i64 1) ∧ w.grownBy w' none := by
  replace hno := Lib.hid hno
  go_enter Tryd.func7, Tryd.ntmps7
  go_wp2_with fail
  refine h.there.mono ?_; rintro e w' ⟨rfl, rfl⟩
  go_wp2_with fail
  refine (is_ok who _).mono ?_; rintro e w' ⟨rfl, rfl⟩
  have hgB := World.grownBy_alloc w (.cells #[.int .i64 who] 3) none
  have hby := (Boxed.new w 3 (.int .i64 who)).cell
  have hW2 := h.keep hgB
  go_wp2_with fail
  refine (ahead_is who hW2 hby (by simp)).mono ?_; rintro e w3 ⟨pre, n, b, hsp, rfl, hx1, hx2, g3⟩
  obtain ⟨a, hab, hta⟩ := split_at hsp
  have hW3 := hW2.keep g3
  have hlk3 := hW3.lk
  rw [hsp] at hlk3
  obtain ⟨c0, c1, c2⟩ := Arr.c hlk3.at
  have hg3 := grown_trans hgB g3
  cases b with
  | nil =>
    replace c2 : w3.cell? ⟨n.b, 2, none⟩ = some (.pointer none) := c2
    clear hx1 hx2 hta hlk3 c0 c1 hsp hab
    go_wp2_with fail
    go_ret
    exact ⟨rfl, hg3⟩
  | cons y b =>
    exfalso
    have hyx := hx2 y b rfl
    rw [beq_iff_eq] at hyx
    exact hno.out y (by rw [hab]; simp) hyx
set_option maxRecDepth 100000 in
theorem change_no (who rank : Int) (hno : ∀ m ∈ l, m.x ≠ who) (h : Wq w Q hd l) :
    Calls Tryd.prog 9 #[.pointer (some ⟨Q, 0, none⟩), .int .i64 who, .int .i64 rank] w fun e w' => e = .returned (.int .i64 1) ∧ w.grownBy w' none := by
  replace hno := Lib.hid hno
  go_enter Tryd.func9, Tryd.ntmps9
  go_wp2_with fail
  refine h.there.mono ?_; rintro e w' ⟨rfl, rfl⟩
  go_wp2_with fail
  refine (is_ok who _).mono ?_; rintro e w' ⟨rfl, rfl⟩
  have hgB := World.grownBy_alloc w (.cells #[.int .i64 who] 3) none
  have hby := (Boxed.new w 3 (.int .i64 who)).cell
  have hW2 := h.keep hgB
  go_wp2_with fail
  refine (ahead_is who hW2 hby (by simp)).mono ?_; rintro e w3 ⟨pre, n, b, hsp, rfl, hx1, hx2, g3⟩
  obtain ⟨a, hab, hta⟩ := split_at hsp
  have hW3 := hW2.keep g3
  have hlk3 := hW3.lk
  rw [hsp] at hlk3
  obtain ⟨c0, c1, c2⟩ := Arr.c hlk3.at
  have hg3 := grown_trans hgB g3
  cases b with
  | nil =>
    replace c2 : w3.cell? ⟨n.b, 2, none⟩ = some (.pointer none) := c2
    clear hx1 hx2 hta hlk3 c0 c1 hsp hab
    go_wp2_with fail
    go_ret
    exact ⟨rfl, hg3⟩
  | cons y b =>
    exfalso
    have hyx := hx2 y b rfl
    rw [beq_iff_eq] at hyx
    exact hno.out y (by rw [hab]; simp) hyx
set_option maxRecDepth 100000 in
theorem change_bad (who rank : Int) (hb : rank < 0 ∨ 31 < rank) (hm : ∃ m ∈ l, m.x = who) (h : Wq w Q hd l) :
    Calls Tryd.prog 9 #[.pointer (some ⟨Q, 0, none⟩), .int .i64 who, .int .i64 rank] w fun e w' => e = .returned (.int .i64 1) ∧ w.grownBy w' none := by
  have hcs : decide (rank < 0) = true ∨ (decide (rank < 0) = false ∧ decide (31 < rank) = true) := by
    simp only [decide_eq_true_eq, decide_eq_false_iff_not]; omega
  replace hm := Lib.hid hm
  clear hb
  go_enter Tryd.func9, Tryd.ntmps9
  go_wp2_with fail
  refine h.there.mono ?_; rintro e w' ⟨rfl, rfl⟩
  go_wp2_with fail
  refine (is_ok who _).mono ?_; rintro e w' ⟨rfl, rfl⟩
  have hgB := World.grownBy_alloc w (.cells #[.int .i64 who] 3) none
  have hby := (Boxed.new w 3 (.int .i64 who)).cell
  have hW2 := h.keep hgB
  go_wp2_with fail
  refine (ahead_is who hW2 hby (by simp)).mono ?_; rintro e w3 ⟨pre, n, b, hsp, rfl, hx1, hx2, g3⟩
  obtain ⟨a, hab, hta⟩ := split_at hsp
  rw [hta] at hx1
  have hW3 := hW2.keep g3
  have hlk3 := hW3.lk
  rw [hsp] at hlk3
  obtain ⟨c0, c1, c2⟩ := Arr.c hlk3.at
  have hg3 := grown_trans hgB g3
  cases b with
  | nil =>
    exfalso
    obtain ⟨m, hm1, hm2⟩ := hm.out
    rw [hab, List.append_nil] at hm1
    have := hx1 m hm1
    rw [beq_eq_false_iff_ne] at this
    exact this hm2
  | cons y b =>
    replace c2 : w3.cell? ⟨n.b, 2, none⟩ = some (.pointer (some ⟨y.b, 0, none⟩)) := c2
    clear hx1 hx2 hta hlk3 c0 c1 hsp hab
    rcases hcs with p1 | ⟨p1, p2⟩
    all_goals
      go_wp2_with fail
      go_ret
      exact ⟨rfl, hg3⟩
theorem first_none (h : Wq w Q hd []) : Calls Tryd.prog 14 #[.pointer (some ⟨Q, 0, none⟩)] w fun e w' => e = .returned (.tuple #[.int .i64 0, .bool false]) ∧ w = w' := by
  have hq := h.q.cell
  have c2 : w.cell? ⟨hd.b, 2, none⟩ = some (.pointer none) := (Arr.c (Lnk.at (a := []) h.lk)).2.2
  go_enter Tryd.func14, Tryd.ntmps14
  go_wp2_with fail
  refine h.there.mono ?_; rintro e w' ⟨rfl, rfl⟩
  go_wp2_with fail
  go_ret2
  exact ⟨rfl, rfl⟩
theorem first_some {m : Nd} (h : Wq w Q hd (m :: l)) : Calls Tryd.prog 14 #[.pointer (some ⟨Q, 0, none⟩)] w fun e w' => e = .returned (.tuple #[.int .i64 m.x, .bool true]) ∧ w = w' := by
  have hq := h.q.cell
  have c2 : w.cell? ⟨hd.b, 2, none⟩ = some (.pointer (some ⟨m.b, 0, none⟩)) := (Arr.c (Lnk.at (a := []) h.lk)).2.2
  have d0 : w.cell? ⟨m.b, 0, none⟩ = some (.int .i64 m.x) := (Arr.c (Lnk.at (a := [hd]) h.lk)).1
  go_enter Tryd.func14, Tryd.ntmps14
  go_wp2_with fail
  refine h.there.mono ?_; rintro e w' ⟨rfl, rfl⟩
  go_wp2_with fail
  go_ret2
  exact ⟨rfl, rfl⟩
end
end Go.Proofs.YtiakbgdeanllnaaDoor
