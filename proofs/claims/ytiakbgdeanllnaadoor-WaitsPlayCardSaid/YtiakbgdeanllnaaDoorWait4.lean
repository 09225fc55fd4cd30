/- Package waits: List. -/
import Derived.Test.YtiakbgdeanllnaaDoorWait2
namespace Go.Proofs.YtiakbgdeanllnaaDoor
open Go.RowKit Go.Shelf Tk
set_option linter.unusedVariables false
set_option linter.unusedSimpArgs false

theorem infoInt : (Tryd.prog.info? 3).map (fun i => (i.zero, i.size, i.bytes)) = some (some (.int .i64 0), 1, 8) := by kernel_rfl
/-- How many links are still to be told. -/
def mul (L : List Nd) (v : Value) : Nat := match v with | .pointer none => 0 | v => mub L v
set_option maxRecDepth 100000 in
theorem clip_ok (A : Option Addr) (n k : Nat) (hk : n ≤ k) (hm : k ≤ maxLen) (hA : A = none → n = 0 ∧ k = 0) (w : World) : Calls Tryd.prog 25 #[.slice A n k] w fun e w' => e = .returned (.slice A n n) ∧ w = w' := by
  rcases A with _ | ⟨b, o, sp⟩
  · obtain ⟨rfl, rfl⟩ := hA rfl
    go_enter Tryd.func25, Tryd.ntmps25
    go_wp2
    go_ret
    exact ⟨rfl, rfl⟩
  · clear hA
    have i1 : (n : Int) ≤ (k : Int) := by omega
    have i0 : (0 : Int) ≤ (n : Int) := Int.natCast_nonneg _
    go_enter Tryd.func25, Tryd.ntmps25
    go_wp2_with fail
    first
      | (go_quiet (fail); go_wp2_with fail)
      | skip
    go_ret
    exact ⟨rfl, rfl⟩
section
variable {w : World} {Q : Nat} {hd : Nd} {l : List Nd}
set_option maxRecDepth 100000 in
set_option maxHeartbeats 4000000 in
theorem list_ok (hl : l.length ≤ 1000) (h : Wq w Q hd l) : Calls Tryd.prog 13 #[.pointer (some ⟨Q, 0, none⟩)] w fun e w' => ∃ A, e = .returned (.slice A l.length l.length) ∧ SlA w' w.heap.size w'.heap.size .i64 A (l.map Nd.x) ∧ w.grownBy w' none := by
  obtain ⟨i0, hi, hz0, hz1, hz2⟩ := info_parts infoInt
  have hq := h.q.cell
  have hK := Lib.hid (fun wr (hg : w.grownBy wr none) => h.keep hg)
  have hc0 := (Arr.c (Lnk.at (a := []) h.lk)).2.2
  go_enter Tryd.func13, Tryd.ntmps13
  go_wp2_with fail
  refine h.there.mono ?_; rintro e w' ⟨rfl, rfl⟩
  go_wp2_with fail
  go_loopw [2, 3] (fun v p wr => ∃ (a b : List Nd), Hid (l = a ++ b) ∧ p = .pointer (ptr b) ∧ Mine wr w.heap.size 3 .i64 v (a.map Nd.x) ∧ w.grownBy wr none) (fun _ p _ => mul (hd :: l) p)
  case atStart => exact ⟨[], l, rfl, rfl, Mine.nil _ _ _ _, grown_refl _ _⟩
  case round =>
    obtain ⟨a, b, hab, rfl, hM, hg⟩ := hrel
    have hws := hg.size
    clear hc0 hq
    obtain ⟨A1, k1, rfl, hc1, hc2, hF⟩ := hM.form
    have hln : a.length ≤ 1000 := by have := congrArg List.length hab.out; simp at this; omega
    rw [List.length_map] at hM hc1 ⊢
    have hAn : A1 = none → a.length = 0 ∧ k1 = 0 := fun hA => by
      subst hA
      rcases hM.2 with ⟨e, -⟩ | ⟨g, c, cur, e, -⟩
      · simp only [Value.slice.injEq, true_and] at e; exact e
      · cases e
    replace hAn := Lib.hid hAn
    cases b with
    | nil =>
      have hla : l = a := by have := hab.out; simpa using this
      have hsl := hM.sl
      rw [← hla] at hM hc1 hsl hAn ⊢
      clear hF hM hln
      replace hla := Lib.hid hla
      rw [show ptr [] = none from rfl]
      go_wp2_with fail
      refine (clip_ok A1 l.length k1 hc1 hc2 hAn.out _).mono ?_; rintro e w' ⟨rfl, rfl⟩
      go_wp2_with fail
      go_ret
      exact ⟨A1, rfl, hsl, hg⟩
    | cons m b =>
      have hW := hK.out _ hg
      have hlk := hW.lk
      rw [hab.out] at hlk
      obtain ⟨c0, c1, c2⟩ := Arr.c (Lnk.at (a := hd :: a) hlk)
      have hms : Hid (mul (hd :: l) (.pointer (ptr b)) < mul (hd :: l) (.pointer (some ⟨m.b, 0, none⟩))) := by
        have hnd := h.nd
        rw [hab.out] at hnd ⊢
        have e0 : hd :: (a ++ m :: b) = (hd :: a) ++ m :: b := rfl
        show mul (hd :: (a ++ m :: b)) (.pointer (ptr b)) < mub (hd :: (a ++ m :: b)) (.pointer (some ⟨m.b, 0, none⟩))
        rw [e0] at hnd ⊢
        rw [mub_at hnd]
        cases b with
        | nil => exact Nat.succ_pos _
        | cons y b =>
          have e2 : (hd :: a) ++ m :: y :: b = ((hd :: a) ++ [m]) ++ y :: b := by simp
          show mub ((hd :: a) ++ m :: y :: b) (.pointer (some ⟨y.b, 0, none⟩)) < _
          rw [e2, mub_at (by rw [← e2]; exact hnd)]
          simp
      have hrow : wr.ownsRow w.heap.size 3 1 (.slice A1 a.length k1) a.length ((a.map Nd.x).map (Value.int .i64)) := by
        have := hM; unfold Mine at this; rwa [List.length_map] at this
      replace hrow := Lib.hid hrow
      have hgA := World.grownBy_alloc wr (.cells #[.int .i64 m.x] 3) none
      have hlkA := hlk.keep hgA
      replace c2 : wr.cell? ⟨m.b, 2, none⟩ = some (.pointer (ptr b)) := c2
      have hm1 : Hid (∀ w', w.grownBy w' none → w'.cell? ⟨m.b, 2, none⟩ = some (.pointer (ptr b))) := fun w' g => by
        have := (hK.out _ g).lk
        rw [hab.out] at this
        exact (Arr.c (Lnk.at (a := hd :: a) this)).2.2
      have hmr : Mine (wr.alloc (.cells #[.int .i64 m.x] 3)) w.heap.size 3 .i64 (.slice A1 a.length k1) (a.map Nd.x) := hM.keep hgA
      clear hF c1 hlk hlkA
      rw [show ptr (m :: b) = some ⟨m.b, 0, none⟩ from rfl]
      go_wp2_with (at_builtin; refine wpList_append_own _ rfl _ _ 43 rfl w.heap.size 3 i0 (.int .i64 0) 1 8 Tryd.underlying43 hi hz0 hz1 hz2 rfl (by decide) (.slice A1 a.length k1) a.length ((a.map Nd.x).map (Value.int .i64)) rfl (World.ownsRow.alloc hrow.out _) ⟨wr.heap.size, 0, none⟩ 1 1 [.int .i64 m.x] rfl rfl (cell_one_new _ _ _) (by simp [Value.oneCell']) (by unfold maxLen; omega) (by omega) (by simp; omega) ?_; intro v' w5 hown hgrow _; have hgr5 : w.grownBy w5 none := hmr.far (grown_alloc hg _) (Nat.le_refl _) hgrow; have hc5 := hm1.out _ hgr5)
      go_roundw
      case rel =>
        refine ⟨a ++ [m], b, by show _ = _; rw [hab.out]; simp, rfl, ?_, hgr5⟩
        have hown' : w5.ownsRow w.heap.size 3 1 v' ((a.map Nd.x).length + 1) ((a.map Nd.x).map (Value.int .i64) ++ [.int .i64 m.x]) := by rw [List.length_map]; exact hown
        rw [List.map_append]
        exact Mine.add hown'
      case measure => exact hms.out
end
end Go.Proofs.YtiakbgdeanllnaaDoor
