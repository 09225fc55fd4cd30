/- Package waits: Put refuses; Change. -/
import Derived.Test.YtiakbgdeanllnaaDoorWait3
import Derived.Test.YtiakbgdeanllnaaDoorWait4
namespace Go.Proofs.YtiakbgdeanllnaaDoor
open Go.RowKit Go.Shelf Tk
set_option linter.unusedVariables false
set_option linter.unusedSimpArgs false

theorem put_nil (who rank : Int) (w : World) : Calls Tryd.prog 11 #[.pointer none, .int .i64 who, .int .i64 rank] w fun e w' => e = .returned (.int .i64 2) ∧ w.grownBy w' none := by
  have hgA := World.grownBy_alloc w (.cells #[.int .i64 rank] 3) none
  go_enter Tryd.func11, Tryd.ntmps11
  go_wp2_with fail
  refine (there_nil _).mono ?_; rintro e w' ⟨rfl, rfl⟩
  go_wp2_with fail
  go_ret
  exact ⟨rfl, hgA⟩
theorem list_nil (w : World) : Calls Tryd.prog 13 #[.pointer none] w fun e w' => e = .returned (.slice none 0 0) ∧ w = w' := by
  go_enter Tryd.func13, Tryd.ntmps13
  go_wp2_with fail
  refine (there_nil _).mono ?_; rintro e w' ⟨rfl, rfl⟩
  go_wp2_with fail
  go_ret
  exact ⟨rfl, rfl⟩
section
variable {w : World} {Q : Nat} {hd : Nd} {l : List Nd}
set_option maxRecDepth 100000 in
set_option maxHeartbeats 4000000 in
theorem put_there (who rank : Int) (h0 : 0 ≤ who) (hr : 0 ≤ rank ∧ rank ≤ 31) (hm : ∃ m ∈ l, m.x = who) (h : Wq w Q hd l) :
    Calls Tryd.prog 11 #[.pointer (some ⟨Q, 0, none⟩), .int .i64 who, .int .i64 rank] w fun e w' => e = .returned (.int .i64 7) ∧ w.grownBy w' none := by
  obtain ⟨hr1, hr2⟩ := hr
  have hbx := Boxed.new w 3 (.int .i64 rank)
  have hgA := World.grownBy_alloc w (.cells #[.int .i64 rank] 3) none
  have hW := h.keep hgA
  have hcx := hbx.cell
  obtain ⟨W1, hW1⟩ : ∃ W1, w.alloc (.cells #[.int .i64 rank] 3) = W1 := ⟨_, rfl⟩
  have hsz : W1.heap.size = w.heap.size + 1 := by rw [← hW1]; simp
  rw [hW1] at hW hgA hcx hbx
  replace hm := Lib.hid hm
  go_enter Tryd.func11, Tryd.ntmps11
  go_wp2_with fail
  refine hW.there.mono ?_; rintro e w' ⟨rfl, rfl⟩
  go_wp2_with fail
  refine (is_ok who _).mono ?_; rintro e w' ⟨rfl, rfl⟩
  have hgB := World.grownBy_alloc W1 (.cells #[.int .i64 who] 3) none
  have hby := (Boxed.new W1 3 (.int .i64 who)).cell
  rw [hsz] at hby
  have hW2 := hW.keep hgB
  go_wp2_with fail
  refine (ahead_is who hW2 hby (by rw [World.size_alloc]; omega)).mono ?_; rintro e w3 ⟨pre, n, b, hsp, rfl, hx1, hx2, g3⟩
  obtain ⟨a, hab, hta⟩ := split_at hsp
  rw [hta] at hx1
  have hW3 := hW2.keep g3
  have hlk3 := hW3.lk
  rw [hsp] at hlk3
  obtain ⟨c0, c1, c2⟩ := Arr.c hlk3.at
  have hg3 := grown_trans hgA (grown_trans hgB g3)
  cases b with
  | nil =>
    exfalso
    obtain ⟨m, hm1, hm2⟩ := hm.out
    rw [hab, List.append_nil] at hm1
    have := hx1 m hm1
    rw [beq_eq_false_iff_ne] at this
    exact this hm2
  | cons y b =>
    replace c2 : w3.cell? ⟨n.b, 2, none⟩ = some (.pointer (some ⟨y.b, 0, none⟩)) := c2
    clear hx1 hx2 hta hlk3 c0 c1 hsp hab hm
    go_wp2_with fail
    go_ret
    exact ⟨rfl, hg3⟩
/-- One link goes. -/
theorem Wq.less {w' : World} {pre a b : List Nd} {n y : Nd} (h : Wq w Q hd (a ++ y :: b)) (hsp : hd :: (a ++ y :: b) = pre ++ n :: y :: b) (hf : Fr (fun k => k = n.b) w w') (hn : Arr w' n.b 3 (lv n.x n.r (ptr b))) : Wq w' Q hd (a ++ b) := by
  have hnb : n.b ∈ Blks (hd :: (a ++ y :: b)) := by rw [hsp]; simp [Blks]
  have hpn : pre ++ [n] = hd :: a := by
    have : (pre ++ [n]) ++ (y :: b) = (hd :: a) ++ (y :: b) := by rw [List.append_assoc]; exact hsp.symm
    exact List.append_cancel_right this
  have hnQ : ¬ Q = n.b := fun e => h.nq (by rw [e]; exact hnb)
  have hnd := h.nd
  have hlk := h.lk
  rw [hsp] at hnd hlk
  have hbb : ∀ z ∈ b, ¬ z.b = n.b := fun z hz e => by
    unfold Blks at hnd
    rw [List.map_append, List.map_cons, List.nodup_append] at hnd
    exact (List.nodup_cons.1 hnd.2.1).1 (by rw [← e]; exact List.mem_map_of_mem (List.mem_cons_of_mem _ hz))
  have hlb : Lnk w' b := (Lnk.tail (a := pre ++ [n, y]) (by simpa using hlk)).fr hf hbb
  have hl2 : Lnk w' (pre ++ n :: b) := Lnk.turn (b := y :: b) hlk hnd hf hn hlb
  have e2 : pre ++ n :: b = hd :: (a ++ b) := by
    have : pre ++ n :: b = (pre ++ [n]) ++ b := by simp
    rw [this, hpn]; rfl
  have hsub : (Blks (hd :: (a ++ b))).Sublist (Blks (hd :: (a ++ y :: b))) := by
    unfold Blks
    exact List.Sublist.map _ (List.Sublist.cons_cons _ (List.Sublist.append_left (List.sublist_cons_self _ _) _))
  exact ⟨(hf.block Q h.q.lt hnQ).trans h.q, by rw [← e2]; exact hl2, List.Nodup.sublist hsub h.nd, fun hq => h.nq (hsub.subset hq)⟩
set_option maxRecDepth 100000 in
set_option maxHeartbeats 4000000 in
theorem change_same (who rank : Int) (hr : 0 ≤ rank ∧ rank ≤ 31) (hm : ∃ m ∈ l, m.x = who) (hy : ∀ y ∈ l, y.x = who → y.r = rank) (h : Wq w Q hd l) :
    Calls Tryd.prog 9 #[.pointer (some ⟨Q, 0, none⟩), .int .i64 who, .int .i64 rank] w fun e w' => e = .returned (.int .i64 0) ∧ w.grownBy w' none := by
  obtain ⟨hr1, hr2⟩ := hr
  replace hm := Lib.hid hm
  replace hy := Lib.hid hy
  go_enter Tryd.func9, Tryd.ntmps9
  go_wp2_with fail
  refine h.there.mono ?_; rintro e w' ⟨rfl, rfl⟩
  go_wp2_with fail
  refine (is_ok who _).mono ?_; rintro e w' ⟨rfl, rfl⟩
  have hgB := World.grownBy_alloc w (.cells #[.int .i64 who] 3) none
  have hby := (Boxed.new w 3 (.int .i64 who)).cell
  have hW2 := h.keep hgB
  go_wp2_with fail
  refine (ahead_is who hW2 hby (by simp)).mono ?_; rintro e w3 ⟨pre, n, b, hsp, rfl, hx1, hx2, g3⟩
  obtain ⟨a, hab, hta⟩ := split_at hsp
  rw [hta] at hx1
  have hW3 := hW2.keep g3
  have hlk3 := hW3.lk
  rw [hsp] at hlk3
  obtain ⟨c0, c1, c2⟩ := Arr.c hlk3.at
  have hg3 := grown_trans hgB g3
  cases b with
  | nil =>
    exfalso
    obtain ⟨m, hm1, hm2⟩ := hm.out
    rw [hab, List.append_nil] at hm1
    have := hx1 m hm1
    rw [beq_eq_false_iff_ne] at this
    exact this hm2
  | cons y b =>
    replace c2 : w3.cell? ⟨n.b, 2, none⟩ = some (.pointer (some ⟨y.b, 0, none⟩)) := c2
    have hlk4 : Lnk w3 ((pre ++ [n]) ++ y :: b) := by simpa using hlk3
    obtain ⟨d0, d1, d2⟩ := Arr.c hlk4.at
    have hyx := hx2 y b rfl
    rw [beq_iff_eq] at hyx
    have hyr := hy.out y (by rw [hab]; simp) hyx
    rw [hyr] at d1
    replace hyx := Lib.hid hyx
    replace hyr := Lib.hid hyr
    have hrr : (rank == rank) = true := by simp
    clear hx1 hx2 hta hlk3 hlk4 c0 c1 d0 d2 hsp hab hm
    go_wp2_with fail
    go_ret
    exact ⟨rfl, hg3⟩
end
end Go.Proofs.YtiakbgdeanllnaaDoor
