/- Package objects: who leaves; the law's 'lives'. -/
import Derived.Test.YtneamjaglgnmkaaGreatDoorObC
namespace Go.Proofs.YtneamjaglgnmkaaGreatDoor
open Go.RowKit Go.Shelf Tk
set_option linter.unusedVariables false
set_option linter.unusedSimpArgs false
theorem Lok.kept {w w' : World} {p q : Nat} {o : Int} {r : Option Nat} (h : Lok w p q o) (hg : w.grownBy w' r) (h1 : r ≠ some p) (h2 : r ≠ some q) : Lok w' p q o := ⟨h.hd.kept hg h1, h.cb.kept hg h2, h.ne⟩
set_option maxRecDepth 100000 in
set_option maxHeartbeats 2000000 in
theorem Hd.leave_of {w : World} {p k : Nat} {a b : Int} {T : TypeId} {x y : Value} {F : Nat} {R : World → Bool → World → Prop} (h : Hd w p k a b T x)
    (who : Int) (hw : who ≠ 0)
    (hn : ∀ w, (nilAhead 306 T x "timekeeper/objects.leave").run Tryz.prog w = .ok (some false) w)
    (hm : ∀ w, (method 306 T x "timekeeper/objects.leave").run Tryz.prog w = .ok (F, y) w)
    (hcf : ∀ args w, (callFunc F args).run Tryz.prog w = .ok (.enter F args) w)
    (hF : Calls Tryz.prog F #[y, .int .u32 who] w fun e w' => ∃ u, e = .returned (.bool u) ∧ R w u w') :
    Calls Tryz.prog 8 #[.pointer (some ⟨p, 0, none⟩), .int .u32 who] w fun e w' => ∃ u, e = .returned (.bool u) ∧ R w u w' := by
  have hwb : (who != 0) = true := by simpa using hw
  have hF' := Lib.hid hF
  have hK := Lib.hid h
  have hi := h.it
  clear hF h
  go_enter Tryz.func8, Tryz.ntmps8
  go_wp2_with (first
    | (go_at_call 19; refine (Hd.there hK.out).mono ?_; rintro e wr ⟨rfl, rfl⟩)
    | (refine hF'.out.mono ?_; rintro e w2 ⟨u, rfl, hR⟩; replace hR := Lib.hid hR))
  go_ret
  exact ⟨u, by simp [hwb], hR.out⟩
theorem enter_lockL (args : Array Value) (w : World) : (callFunc 117 args).run Tryz.prog w = .ok (.enter 117 args) w := by kernel_rfl
theorem nilAhead_lockL (q : Nat) (w : World) : (nilAhead 306 69 (.pointer (some ⟨q, 0, none⟩)) "timekeeper/objects.leave").run Tryz.prog w = .ok (some false) w := by kernel_rfl
theorem Lok.leave {w : World} {p q : Nat} {who : Int} (h : Lok w p q who) (hw : who ≠ 0) :
    Calls Tryz.prog 8 #[.pointer (some ⟨p, 0, none⟩), .int .u32 who] w fun e w' => e = .returned (.bool true) ∧ Lok w' p q 0 ∧ w.grownBy w' (some q) := by
  refine (h.hd.leave_of (R := fun w u w' => u = true ∧ LokB w' q 0 ∧ w.grownBy w' (some q)) who hw (nilAhead_lockL q) (method_lockL q) enter_lockL (h.cb.leave.mono ?_)).mono ?_
  · rintro e w' ⟨rfl, h1, h2⟩; exact ⟨_, rfl, rfl, h1, h2⟩
  · rintro e w' ⟨u, rfl, rfl, h1, h2⟩; exact ⟨rfl, ⟨h.hd.kept h2 (by simp; exact fun e => h.ne e.symm), h1, h.ne⟩, h2⟩
theorem Lok.leave_no {w : World} {p q : Nat} {o who : Int} (h : Lok w p q o) (h1 : o ≠ who) (hw : who ≠ 0) :
    Calls Tryz.prog 8 #[.pointer (some ⟨p, 0, none⟩), .int .u32 who] w fun e w' => e = .returned (.bool false) ∧ w = w' := by
  refine (h.hd.leave_of (R := fun w u w' => u = false ∧ w = w') who hw (nilAhead_lockL q) (method_lockL q) enter_lockL ((h.cb.leave_no h1).mono ?_)).mono ?_
  · rintro e w' ⟨rfl, rfl⟩; exact ⟨_, rfl, rfl, rfl⟩
  · rintro e w' ⟨u, rfl, rfl, h2⟩; exact ⟨rfl, h2⟩
set_option maxRecDepth 100000 in
set_option maxHeartbeats 8000000 in
theorem lives_ok (w : World) : Calls Tryz.prog 4 #[] w fun e w' => e = .returned (.bool true) ∧ w.grownBy w' none := by
  have hc := Lib.hid (new_count 1 2 (by decide) (by decide) (by decide) w)
  go_enter Tryz.func4, Tryz.ntmps4
  go_wp2_with (go_at_call 5; refine hc.out.mono ?_; rintro e w1 ⟨p, q, rfl, hd, cb, hp, hq, hne, hg⟩; replace hd := Lib.hid (Cnt.mk hd cb hne); replace hg := Lib.hid hg; clear hc cb)
  have hl := Lib.hid (new_lock w1)
  go_wp2_with (go_at_call 5; refine hl.out.mono ?_; rintro e w2 ⟨p2, q2, rfl, ld, lb, hp2, hq2, hne2, hg2⟩; replace ld := Lib.hid (Lok.mk ld lb hne2); replace hg2 := Lib.hid hg2; clear hl lb)
  have hpw : p < w1.heap.size := hd.out.hd.lt
  have hqw : q < w1.heap.size := hd.out.cb.lt
  replace hd := Lib.hid (hd.out.keep hg2.out)
  replace hg2 := Lib.hid (grown_trans hg.out hg2.out)
  have n1 : some q ≠ some p2 := by simp; omega
  have n2 : some q ≠ some q2 := by simp; omega
  have hq20 : w.heap.size ≤ q2 := by have := hg.out.size; omega
  replace n1 := Lib.hid n1
  replace n2 := Lib.hid n2
  clear hg
  go_wp2_with (go_at_call 7; refine (hd.out.take (by decide) 9 (by decide) 0 0 0 0).mono ?_; rintro e w3 ⟨rfl, hd3, hg3⟩; replace ld := Lib.hid (ld.out.kept hg3 n1.out n2.out); replace hg2 := Lib.hid (grown_step hg2.out hg3 hq); replace hd3 := Lib.hid hd3; clear hd hg3)
  go_wp2_with (go_at_call 7; refine (hd3.out.take_no (by decide) 9 (by decide) 0 0 0 0).mono ?_; rintro e w4 ⟨rfl, hd4, hg3⟩; replace ld := Lib.hid (ld.out.keep hg3); replace hg2 := Lib.hid (grown_trans hg2.out hg3); replace hd4 := Lib.hid hd4; clear hd3 hg3)
  go_wp2_with (go_at_call 7; refine (hd4.out.give (by decide) 9 (by decide) 0 0 0 0).mono ?_; rintro e w5 ⟨rfl, hd5, hg3⟩; replace ld := Lib.hid (ld.out.kept hg3 n1.out n2.out); replace hg2 := Lib.hid (grown_step hg2.out hg3 hq); clear hd4 hg3 hd5)
  go_wp2_with (go_at_call 7; refine (ld.out.lock (who := 9) (by decide) 0 0 0 0).mono ?_; rintro e w6 ⟨rfl, ld6, hg3⟩; replace ld6 := Lib.hid ld6; replace hg2 := Lib.hid (grown_step hg2.out hg3 hq20); clear ld hg3)
  go_wp2_with (go_at_call 7; refine (ld6.out.lock_own (by decide) 0 0 0 0).mono ?_; rintro e w7 ⟨rfl, ld7, hg3⟩; replace ld7 := Lib.hid ld7; replace hg2 := Lib.hid (grown_trans hg2.out hg3); clear ld6 hg3)
  go_wp2_with (go_at_call 7; refine (ld7.out.lock_busy (who := 8) (by decide) (by decide) (by decide) 0 0 0 0).mono ?_; rintro e w8 ⟨rfl, ld8, hg3⟩; replace ld8 := Lib.hid ld8; replace hg2 := Lib.hid (grown_trans hg2.out hg3); clear ld7 hg3)
  go_wp2_with (go_at_call 7; refine (ld8.out.unlock_no (who := 8) (by decide) (by decide) 0 0 0 0).mono ?_; rintro e w9 ⟨rfl, ld9, hg3⟩; replace ld9 := Lib.hid ld9; replace hg2 := Lib.hid (grown_trans hg2.out hg3); clear ld8 hg3)
  go_wp2_with (go_at_call 8; refine (ld9.out.leave (by decide)).mono ?_; rintro e wa ⟨rfl, lda, hg3⟩; replace lda := Lib.hid lda; replace hg2 := Lib.hid (grown_step hg2.out hg3 hq20); clear ld9 hg3)
  go_wp2_with (go_at_call 8; refine (lda.out.leave_no (who := 9) (by decide) (by decide)).mono ?_; rintro e wb ⟨rfl, rfl⟩)
  go_ret
  exact ⟨rfl, hg2.out⟩
end Go.Proofs.YtneamjaglgnmkaaGreatDoor
