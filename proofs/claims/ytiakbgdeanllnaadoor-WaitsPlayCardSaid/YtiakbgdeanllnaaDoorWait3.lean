/- Package waits: Put. -/
import Derived.Test.YtiakbgdeanllnaaDoorWait2
namespace Go.Proofs.YtiakbgdeanllnaaDoor
open Go.RowKit Go.Shelf Tk
set_option linter.unusedVariables false
set_option linter.unusedSimpArgs false

section
variable {w : World} {Q : Nat} {hd : Nd} {l : List Nd}
/-- The queue's own blocks. -/
def Own (hd : Nd) (l : List Nd) (k : Nat) : Prop := k ∈ Blks (hd :: l)
/-- One more link, behind some. -/
theorem Wq.more {w' : World} {pre a b : List Nd} {n m : Nd} (h : Wq w Q hd (a ++ b)) (hsp : hd :: (a ++ b) = pre ++ n :: b) (hf : Fr (fun k => k = n.b) w w') (hm : m.b ∉ Blks (hd :: (a ++ b))) (hmQ : m.b ≠ Q) (hn : Arr w' n.b 3 (lv n.x n.r (some ⟨m.b, 0, none⟩))) (hA : Arr w' m.b 3 (lv m.x m.r (ptr b))) : Wq w' Q hd (a ++ m :: b) := by
  have hnb : n.b ∈ Blks (hd :: (a ++ b)) := by rw [hsp]; simp [Blks]
  have hpn : pre ++ [n] = hd :: a := by
    have : (pre ++ [n]) ++ b = (hd :: a) ++ b := by rw [List.append_assoc]; exact hsp.symm
    exact List.append_cancel_right this
  have hnQ : ¬ Q = n.b := fun e => h.nq (by rw [e]; exact hnb)
  have hnd := h.nd
  have hlk := h.lk
  rw [hsp] at hnd hlk
  have hbb : ∀ y ∈ b, ¬ y.b = n.b := fun y hy e => by
    unfold Blks at hnd
    rw [List.map_append, List.map_cons, List.nodup_append] at hnd
    exact (List.nodup_cons.1 hnd.2.1).1 (by rw [← e]; exact List.mem_map_of_mem hy)
  have hlb : Lnk w' b := (Lnk.tail (a := pre ++ [n]) (by simpa using hlk)).fr hf hbb
  have hl2 : Lnk w' (pre ++ n :: m :: b) := Lnk.turn (b := b) hlk hnd hf hn ⟨hA, hlb⟩
  have e2 : pre ++ n :: m :: b = hd :: (a ++ m :: b) := by
    have : pre ++ n :: m :: b = (pre ++ [n]) ++ m :: b := by simp
    rw [this, hpn]; rfl
  have e3 : (Blks (hd :: (a ++ m :: b))).Perm (m.b :: Blks (hd :: (a ++ b))) := by
    unfold Blks
    simp only [List.map_cons, List.map_append]
    exact (List.Perm.cons _ List.perm_middle).trans (List.Perm.swap _ _ _)
  refine ⟨(hf.block Q h.q.lt hnQ).trans h.q, by rw [← e2]; exact hl2, e3.nodup_iff.2 (List.nodup_cons.2 ⟨hm, h.nd⟩), fun hq => ?_⟩
  rcases List.mem_cons.1 (e3.mem_iff.1 hq) with h' | h'
  · exact hmQ h'.symm
  · exact h.nq h'
theorem fr_grown {S : Nat → Prop} {a b : World} (h : a.grownBy b none) : Fr S a b := Fr.of_grown h (by simp)
theorem split_at {pre b : List Nd} {n : Nd} (h : hd :: l = pre ++ n :: b) : ∃ a, l = a ++ b ∧ (pre ++ [n]).tail = a := by
  have h2 : hd :: l = (pre ++ [n]) ++ b := by rw [h]; simp
  cases hp : pre ++ [n] with
  | nil => simp at hp
  | cons y a =>
    rw [hp] at h2
    exact ⟨a, (List.cons.inj h2).2, rfl⟩
theorem Lnk.lt {w : World} : ∀ {l : List Nd}, Lnk w l → ∀ k ∈ Blks l, k < w.heap.size
  | [], _, k, hk => by simp [Blks] at hk
  | n :: l, h, k, hk => by
    rcases List.mem_cons.1 hk with rfl | hk
    · exact h.1.lt
    · exact Lnk.lt h.2 k hk
set_option maxRecDepth 100000 in
set_option maxHeartbeats 8000000 in
theorem put_ok (who rank : Int) (h0 : 0 ≤ who) (hr : 0 ≤ rank ∧ rank ≤ 31) (hno : ∀ m ∈ l, m.x ≠ who) (h : Wq w Q hd l) :
    Calls Tryd.prog 11 #[.pointer (some ⟨Q, 0, none⟩), .int .i64 who, .int .i64 rank] w fun e w' => e = .returned (.int .i64 0) ∧ ∃ a b m, l = a ++ b ∧ Wq w' Q hd (a ++ (⟨m, who, rank⟩ : Nd) :: b) ∧ (∀ y ∈ a, rank ≤ y.r) ∧ (∀ y b', b = y :: b' → y.r < rank) ∧ w.heap.size ≤ m ∧ Fr (Own hd l) w w' := by
  obtain ⟨hr1, hr2⟩ := hr
  have hbx := Boxed.new w 3 (.int .i64 rank)
  have hgA := World.grownBy_alloc w (.cells #[.int .i64 rank] 3) none
  have hW := h.keep hgA
  have hcx := hbx.cell
  obtain ⟨W1, hW1⟩ : ∃ W1, w.alloc (.cells #[.int .i64 rank] 3) = W1 := ⟨_, rfl⟩
  have hsz : W1.heap.size = w.heap.size + 1 := by rw [← hW1]; simp
  rw [hW1] at hW hgA hcx hbx
  replace hno := Lib.hid hno
  go_enter Tryd.func11, Tryd.ntmps11
  go_wp2_with fail
  refine hW.there.mono ?_; rintro e w' ⟨rfl, rfl⟩
  go_wp2_with fail
  refine (is_ok who _).mono ?_; rintro e w' ⟨rfl, rfl⟩
  have hgB := World.grownBy_alloc W1 (.cells #[.int .i64 who] 3) none
  have hby := (Boxed.new W1 3 (.int .i64 who)).cell
  rw [hsz] at hby
  have hW2 := hW.keep hgB
  go_wp2_with fail
  refine (ahead_is who hW2 hby (by rw [World.size_alloc]; omega)).mono ?_; rintro e w3 ⟨pre, n, b, hsp, rfl, hx1, hx2, g3⟩
  obtain ⟨a, hab, hta⟩ := split_at hsp
  have hb : b = [] := by
    cases b with
    | nil => rfl
    | cons y b =>
      exfalso
      have := hx2 y b rfl
      rw [beq_iff_eq] at this
      exact hno.out y (by rw [hab]; simp) this
  subst hb
  have hW3 := hW2.keep g3
  have hlk3 := hW3.lk
  rw [hsp] at hlk3
  obtain ⟨c0, c1, c2⟩ := Arr.c hlk3.at
  replace c2 : w3.cell? ⟨n.b, 2, none⟩ = some (.pointer none) := c2
  clear hx1 hx2 hta hlk3 c0 c1 hsp
  have hg13 := grown_trans hgB g3
  have hbx3 := hbx.kept hg13 (by simp)
  have hcx3 := hbx3.cell
  have hlt3 := hbx3.lt
  go_wp2_with fail
  refine (ahead_put rank hW3 hcx3 hlt3).mono ?_; rintro e w4 ⟨pre, n2, b, hsp, rfl, hx1, hx2, g4⟩
  obtain ⟨a2, hab2, hta2⟩ := split_at hsp
  rw [hta2] at hx1
  have hW4 := hW3.keep g4
  have hlk4 := hW4.lk
  rw [hsp] at hlk4
  have hA4 := hlk4.at
  obtain ⟨d0, d1, d2⟩ := Arr.c hA4
  have hfz := hA4.frozen 2
  have hlt4 := hA4.lt
  have hbx4 := (hbx3.kept g4 (by simp))
  have hcx4 := hbx4.cell
  have hg04 := grown_trans hgA (grown_trans hg13 g4)
  replace hx1 : ∀ y ∈ a2, rank ≤ y.r := fun y hy => by
    have := hx1 y hy
    rw [decide_eq_false_iff_not] at this
    omega
  replace hx2 : ∀ y b', b = y :: b' → y.r < rank := fun y b' e => by
    have := hx2 y b' e
    rwa [decide_eq_true_eq] at this
  have hall := Lib.hid (And.intro hW4 (And.intro hA4 (And.intro hg04 (And.intro hx1 (And.intro hx2 (And.intro hsp (And.intro hab2 h)))))))
  have hne4 : ¬ n2.b = w4.heap.size := by omega
  have hwsz : Hid (w.heap.size ≤ w4.heap.size) := hg04.size
  obtain ⟨X, hXX⟩ : ∃ X, w.heap.size = X := ⟨_, rfl⟩
  rw [hXX] at hcx4 hwsz ⊢
  replace hXX := Lib.hid hXX
  clear hlk4 d0 d1 hcx3 hlt3 hbx3 c2 hgA hgB hW hW1 hcx hbx hby hW2 hW3 g3 g4 hg13 hW4 hA4 hg04 hx1 hx2 hsp hab2 hab hno h0 hr1 hr2 hsz hta2 h hbx4
  go_wp2_with fail
  go_region
  all_goals
    obtain ⟨hW4, hA4, hg04, hx1, hx2, hsp, hab2, h⟩ := hall.out
    have hss : (w4.setCell ⟨n2.b, 2, none⟩ (.pointer (some ⟨w4.heap.size, 0, none⟩))).heap.size = w4.heap.size := by show (w4.heap.modify _ _).size = _; simp
    have hf5 : Fr (fun k => k = n2.b) w4 ((w4.setCell ⟨n2.b, 2, none⟩ (.pointer (some ⟨w4.heap.size, 0, none⟩))).alloc (.cells #[.int .i64 who, .int .i64 rank, .pointer (ptr b)] 54)).drew := (((Fr.refl (fun k => k = n2.b) w4).setCell ⟨n2.b, 2, none⟩ (fun _ => rfl) _).alloc _).drew
    have hn5 : Arr ((w4.setCell ⟨n2.b, 2, none⟩ (.pointer (some ⟨w4.heap.size, 0, none⟩))).alloc (.cells #[.int .i64 who, .int .i64 rank, .pointer (ptr b)] 54)).drew n2.b 3 (lv n2.x n2.r (some ⟨w4.heap.size, 0, none⟩)) := (((hA4.set (k := 2) (by decide) (.pointer (some ⟨w4.heap.size, 0, none⟩))).alloc (.cells #[.int .i64 who, .int .i64 rank, .pointer (ptr b)] 54)).drew).congr (fun i hi => by
      rcases (by omega : i = 0 ∨ i = 1 ∨ i = 2) with rfl | rfl | rfl <;> simp [lv])
    have hm5 : Arr ((w4.setCell ⟨n2.b, 2, none⟩ (.pointer (some ⟨w4.heap.size, 0, none⟩))).alloc (.cells #[.int .i64 who, .int .i64 rank, .pointer (ptr b)] 54)).drew w4.heap.size 3 (lv who rank (ptr b)) := by
      have := Arr.new (w4.setCell ⟨n2.b, 2, none⟩ (.pointer (some ⟨w4.heap.size, 0, none⟩))) #[.int .i64 who, .int .i64 rank, .pointer (ptr b)] 54 3 (lv who rank (ptr b)) rfl (fun i hi => by
        rcases (by omega : i = 0 ∨ i = 1 ∨ i = 2) with rfl | rfl | rfl <;> rfl)
      rw [hss] at this
      exact this.drew
    obtain ⟨W5, hW5⟩ : ∃ W5, ((w4.setCell ⟨n2.b, 2, none⟩ (.pointer (some ⟨w4.heap.size, 0, none⟩))).alloc (.cells #[.int .i64 who, .int .i64 rank, .pointer (ptr b)] 54)).drew = W5 := ⟨_, rfl⟩
    rw [hW5] at hf5 hn5 hm5 ⊢
    have hfin : Wq W5 Q hd (a2 ++ (⟨w4.heap.size, who, rank⟩ : Nd) :: b) := by
      rw [hab2] at hW4 hsp
      refine hW4.more (m := ⟨w4.heap.size, who, rank⟩) hsp hf5 (fun hm => ?_) (fun e => ?_) hn5 hm5
      · exact absurd (Lnk.lt hW4.lk _ hm) (Nat.lt_irrefl _)
      · have := hW4.q.lt; simp only at e; omega
    have hfr : Fr (Own hd l) w W5 := (fr_grown hg04).trans (hf5.mono (fun k hk e => by
      show k ∈ Blks (hd :: l)
      rw [e, hsp]; simp [Blks]))
    have hXw := hwsz.out
    replace hall := Lib.hid (And.intro hfin (And.intro hfr (And.intro hx1 (And.intro hx2 hab2))))
    clear hW4 hA4 hg04 hx1 hx2 hsp hab2 h hf5 hn5 hm5 hfin hfr hss hW5 hcx4 d2 hfz hlt4 hne4
    go_wp2_with fail
    go_ret
    obtain ⟨hfin, hfr, hx1, hx2, hab2⟩ := hall.out
    exact ⟨rfl, a2, b, w4.heap.size, hab2, hfin, hx1, hx2, by rw [hXX.out]; exact hXw, hfr⟩
end
end Go.Proofs.YtiakbgdeanllnaaDoor
