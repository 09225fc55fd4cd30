/- Package waits: Remove. -/
import Derived.Test.YtiakbgdeanllnaaDoorWait6
namespace Go.Proofs.YtiakbgdeanllnaaDoor
open Go.RowKit Go.Shelf Tk
set_option linter.unusedVariables false
set_option linter.unusedSimpArgs false

section
variable {w : World} {Q : Nat} {hd : Nd} {l : List Nd}
set_option maxRecDepth 100000 in
set_option maxHeartbeats 4000000 in
theorem remove_ok (who : Int) (hm : ∃ m ∈ l, m.x = who) (hu : (l.map Nd.x).Nodup) (h : Wq w Q hd l) :
    Calls Tryd.prog 7 #[.pointer (some ⟨Q, 0, none⟩), .int .i64 who] w fun e w' => e = .returned (.int .i64 0) ∧ ∃ a y b, l = a ++ y :: b ∧ y.x = who ∧ Wq w' Q hd (a ++ b) ∧ (∀ m ∈ a ++ b, m.x ≠ who) ∧ Fr (Own hd l) w w' := by
  replace hm := Lib.hid hm
  go_enter Tryd.func7, Tryd.ntmps7
  go_wp2_with fail
  refine h.there.mono ?_; rintro e w' ⟨rfl, rfl⟩
  go_wp2_with fail
  refine (is_ok who _).mono ?_; rintro e w' ⟨rfl, rfl⟩
  have hgB := World.grownBy_alloc w (.cells #[.int .i64 who] 3) none
  have hby := (Boxed.new w 3 (.int .i64 who)).cell
  have hW2 := h.keep hgB
  go_wp2_with fail
  refine (ahead_is who hW2 hby (by simp)).mono ?_; rintro e w3 ⟨pre, n, b, hsp, rfl, hx1, hx2, g3⟩
  obtain ⟨a, hab, hta⟩ := split_at hsp
  rw [hta] at hx1
  have hW3 := hW2.keep g3
  have hlk3 := hW3.lk
  rw [hsp] at hlk3
  have hAn := hlk3.at
  obtain ⟨c0, c1, c2⟩ := Arr.c hAn
  have hg3 := grown_trans hgB g3
  cases b with
  | nil =>
    exfalso
    obtain ⟨m, hm1, hm2⟩ := hm.out
    rw [hab, List.append_nil] at hm1
    have := hx1 m hm1
    rw [beq_eq_false_iff_ne] at this
    exact this hm2
  | cons y b =>
    replace c2 : w3.cell? ⟨n.b, 2, none⟩ = some (.pointer (some ⟨y.b, 0, none⟩)) := c2
    have hlk4 : Lnk w3 ((pre ++ [n]) ++ y :: b) := by simpa using hlk3
    obtain ⟨d0, d1, d2⟩ := Arr.c hlk4.at
    have hyx := hx2 y b rfl
    rw [beq_iff_eq] at hyx
    have hfz := hAn.frozen 2
    have hn4 : Arr (w3.setCell ⟨n.b, 2, none⟩ (.pointer (ptr b))) n.b 3 (lv n.x n.r (ptr b)) := (hAn.set (k := 2) (by decide) (.pointer (ptr b))).congr (fun i hi => by
      rcases (by omega : i = 0 ∨ i = 1 ∨ i = 2) with rfl | rfl | rfl <;> simp [lv])
    have hf4 : Fr (fun k => k = n.b) w3 (w3.setCell ⟨n.b, 2, none⟩ (.pointer (ptr b))) := (Fr.refl (fun k => k = n.b) w3).setCell ⟨n.b, 2, none⟩ (fun _ => rfl) _
    have hW4 : Wq (w3.setCell ⟨n.b, 2, none⟩ (.pointer (ptr b))) Q hd (a ++ b) := by
      rw [hab] at hW3 hsp
      exact hW3.less hsp hf4 hn4
    have hno : ∀ m ∈ a ++ b, m.x ≠ who := by
      intro m hmm e
      rw [hab, List.map_append, List.map_cons, List.nodup_append] at hu
      rcases List.mem_append.1 hmm with hma | hmb
      · have := hx1 m hma
        rw [beq_eq_false_iff_ne] at this
        exact this e
      · exact (List.nodup_cons.1 hu.2.1).1 (by rw [hyx, ← e]; exact List.mem_map_of_mem hmb)
    have hfw : Fr (Own hd l) w (w3.setCell ⟨n.b, 2, none⟩ (.pointer (ptr b))) := (fr_grown hg3).trans (hf4.mono (fun k hk e => by
      show k ∈ Blks (hd :: l)
      rw [e, hsp]; simp [Blks]))
    obtain ⟨W4, hW4e⟩ : ∃ W4, w3.setCell ⟨n.b, 2, none⟩ (.pointer (ptr b)) = W4 := ⟨_, rfl⟩
    rw [hW4e] at hfw hW4
    have hall := Lib.hid (And.intro hfw (And.intro hab (And.intro hyx (And.intro hW4 hno))))
    clear hx1 hx2 hta hlk3 hlk4 c0 c1 d0 hsp hab hm hn4 hf4 hW4 hno hfw hyx hAn hW3 hW2 hby hgB g3 hg3 h hu
    go_wp2_with fail
    go_ret
    obtain ⟨hfw, hab, hyx, hW4, hno⟩ := hall.out
    exact ⟨rfl, a, y, b, hab, hyx, hW4, hno, hfw⟩
end
end Go.Proofs.YtiakbgdeanllnaaDoor
