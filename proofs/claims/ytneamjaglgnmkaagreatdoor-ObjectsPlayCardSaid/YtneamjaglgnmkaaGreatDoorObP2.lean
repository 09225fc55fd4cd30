/- Package objects: a pool as a thing. -/
import Derived.Test.YtneamjaglgnmkaaGreatDoorObP
namespace Go.Proofs.YtneamjaglgnmkaaGreatDoor
open Go.RowKit Go.Shelf Tk
set_option linter.unusedVariables false
set_option linter.unusedSimpArgs false
theorem nilAhead_pool (q : Nat) (w : World) : (nilAhead 306 84 (.pointer (some ⟨q, 0, none⟩)) "timekeeper/objects.try").run Tryz.prog w = .ok (some false) w := by kernel_rfl
theorem method_pool (q : Nat) (w : World) : (method 306 84 (.pointer (some ⟨q, 0, none⟩)) "timekeeper/objects.try").run Tryz.prog w = .ok (134, .pointer (some ⟨q, 0, none⟩)) w := by kernel_rfl
theorem enter_pool (args : Array Value) (w : World) : (callFunc 134 args).run Tryz.prog w = .ok (.enter 134 args) w := by kernel_rfl
theorem nilAhead_poolL (q : Nat) (w : World) : (nilAhead 306 84 (.pointer (some ⟨q, 0, none⟩)) "timekeeper/objects.leave").run Tryz.prog w = .ok (some false) w := by kernel_rfl
theorem method_poolL (q : Nat) (w : World) : (method 306 84 (.pointer (some ⟨q, 0, none⟩)) "timekeeper/objects.leave").run Tryz.prog w = .ok (133, .pointer (some ⟨q, 0, none⟩)) w := by kernel_rfl
theorem enter_poolL (args : Array Value) (w : World) : (callFunc 133 args).run Tryz.prog w = .ok (.enter 133 args) w := by kernel_rfl
/-- A pool as a thing. -/
structure Plt (w : World) (p q B : Nat) (z : Int) (os : List Int) : Prop where
  hd : Hd w p 5 os.length z 84 (.pointer (some ⟨q, 0, none⟩))
  pb : PolB w q B
  pl : PolN.Pl w B os
  pB : p ≠ B
  qB : q ≠ B
theorem Plt.keep {w w' : World} {p q B : Nat} {z : Int} {os : List Int} (h : Plt w p q B z os) (hg : w.grownBy w' none) : Plt w' p q B z os := ⟨h.hd.keep hg, h.pb.kept hg (by simp), h.pl.keep hg, h.pB, h.qB⟩
theorem Plt.turn {w w' : World} {p q B : Nat} {z : Int} {os os' : List Int} (h : Plt w p q B z os) (hl : os'.length = os.length) (hp : PolN.Pl w' B os') (hg : w.grownBy w' (some B)) : Plt w' p q B z os' :=
  ⟨by rw [hl]; exact h.hd.kept hg (by simp; exact fun e => h.pB e.symm), h.pb.kept hg (by simp; exact fun e => h.qB e.symm), hp, h.pB, h.qB⟩
theorem Plt.alloc {w : World} {p q B : Nat} {z : Int} {os : List Int} (h : Plt w p q B z os) (who : Int) (hw : who ≠ 0) (hh v x t : Int) :
    Calls Tryz.prog 7 #[.pointer (some ⟨p, 0, none⟩), .int .u32 who, askV 14 hh v x t] w fun e w' =>
      (∃ j : Nat, e = .returned (.tuple #[.int .u32 j, .int .i64 0]) ∧ j < os.length ∧ gd os j = 0 ∧ (∀ i, i < j → gd os i ≠ 0) ∧ Plt w' p q B z (os.set j who) ∧ w.grownBy w' (some B)) ∨
      (e = .returned (.tuple #[.int .u32 0, .int .i64 7]) ∧ (∀ i, i < os.length → gd os i ≠ 0) ∧ Plt w' p q B z os ∧ w.grownBy w' none) := by
  refine (h.hd.try_of (R := fun w1 u r w' => (∃ j : Nat, u = .int .u32 j ∧ r = .int .i64 0 ∧ j < os.length ∧ gd os j = 0 ∧ (∀ i, i < j → gd os i ≠ 0) ∧ PolN.Pl w' B (os.set j who) ∧ w1.grownBy w' (some B)) ∨
    (u = .int .u32 0 ∧ r = .int .i64 7 ∧ (∀ i, i < os.length → gd os i ≠ 0) ∧ w1.grownBy w' none)) (by decide) who 14 hh v x t hw (by decide) (fun e => absurd e (by decide)) (nilAhead_pool q) (method_pool q) enter_pool
    (fun w1 hg => ((h.pb.kept hg (by simp)).qalloc (h.pl.keep hg) who hw hh v x t).mono ?_)).mono ?_
  · rintro e w' (⟨j, rfl, h1, h2, h3, h4, h5⟩ | ⟨rfl, h1, h2⟩)
    · exact ⟨_, _, rfl, .inl ⟨j, rfl, rfl, h1, h2, h3, h4, h5⟩⟩
    · exact ⟨_, _, rfl, .inr ⟨rfl, rfl, h1, h2⟩⟩
  · rintro e w' ⟨w1, u, r, hg, rfl, (⟨j, rfl, rfl, h1, h2, h3, h4, h5⟩ | ⟨rfl, rfl, h1, h2⟩)⟩
    · exact .inl ⟨j, rfl, h1, h2, h3, (h.keep hg).turn (by simp) h4 h5, grown_trans (grown_weaken _ hg) h5⟩
    · exact .inr ⟨rfl, h1, h.keep (grown_trans hg h2), grown_trans hg h2⟩
theorem Plt.free {w : World} {p q B : Nat} {z : Int} {os : List Int} (h : Plt w p q B z os) (who : Int) (hw : who ≠ 0) (j : Nat) (hj : j < os.length) (ho : gd os j = who) (hh x t : Int) :
    Calls Tryz.prog 7 #[.pointer (some ⟨p, 0, none⟩), .int .u32 who, askV 15 hh j x t] w fun e w' => e = .returned (.tuple #[.int .u32 0, .int .i64 0]) ∧ Plt w' p q B z (os.set j 0) ∧ w.grownBy w' (some B) := by
  refine (h.hd.try_of (R := fun w1 u r w' => u = .int .u32 0 ∧ r = .int .i64 0 ∧ PolN.Pl w' B (os.set j 0) ∧ w1.grownBy w' (some B)) (by decide) who 15 hh j x t hw (by decide) (fun e => absurd e (by decide)) (nilAhead_pool q) (method_pool q) enter_pool
    (fun w1 hg => ((h.pb.kept hg (by simp)).qfree (h.pl.keep hg) who hw j hj ho hh x t).mono ?_)).mono ?_
  · rintro e w' ⟨rfl, h1, h2⟩; exact ⟨_, _, rfl, rfl, rfl, h1, h2⟩
  · rintro e w' ⟨w1, u, r, hg, rfl, rfl, rfl, h1, h2⟩; exact ⟨rfl, (h.keep hg).turn (by simp) h1 h2, grown_trans (grown_weaken _ hg) h2⟩
theorem Plt.free_no {w : World} {p q B : Nat} {z : Int} {os : List Int} (h : Plt w p q B z os) (who : Int) (hw : who ≠ 0) (j : Nat) (hj : j < os.length) (ho : gd os j ≠ who) (hh x t : Int) :
    Calls Tryz.prog 7 #[.pointer (some ⟨p, 0, none⟩), .int .u32 who, askV 15 hh j x t] w fun e w' => e = .returned (.tuple #[.int .u32 0, .int .i64 13]) ∧ Plt w' p q B z os ∧ w.grownBy w' none := by
  refine (h.hd.try_of (R := fun w1 u r w' => u = .int .u32 0 ∧ r = .int .i64 13 ∧ w1.grownBy w' none) (by decide) who 15 hh j x t hw (by decide) (fun e => absurd e (by decide)) (nilAhead_pool q) (method_pool q) enter_pool
    (fun w1 hg => ((h.pb.kept hg (by simp)).qfree_no (h.pl.keep hg) who hw j hj ho hh x t).mono ?_)).mono ?_
  · rintro e w' ⟨rfl, h2⟩; exact ⟨_, _, rfl, rfl, rfl, h2⟩
  · rintro e w' ⟨w1, u, r, hg, rfl, rfl, rfl, h2⟩; exact ⟨rfl, h.keep (grown_trans hg h2), grown_trans hg h2⟩
theorem Plt.leave {w : World} {p q B : Nat} {z : Int} {os : List Int} (h : Plt w p q B z os) (who : Int) (hw : who ≠ 0) :
    Calls Tryz.prog 8 #[.pointer (some ⟨p, 0, none⟩), .int .u32 who] w fun e w' => e = .returned (.bool (decide (0 < os.count who))) ∧ Plt w' p q B z (os.map fun x => if x = who then 0 else x) ∧ w.grownBy w' (some B) := by
  refine (h.hd.leave_of (R := fun w u w' => u = decide (0 < os.count who) ∧ PolN.Pl w' B (os.map fun x => if x = who then 0 else x) ∧ w.grownBy w' (some B)) who hw (nilAhead_poolL q) (method_poolL q) enter_poolL ((h.pb.qleave h.pl who hw).mono ?_)).mono ?_
  · rintro e w' ⟨rfl, h1, h2⟩; exact ⟨_, rfl, rfl, h1, h2⟩
  · rintro e w' ⟨u, rfl, rfl, h1, h2⟩; exact ⟨rfl, h.turn (by simp) h1 h2, h2⟩
set_option maxRecDepth 100000 in
set_option maxHeartbeats 8000000 in
theorem new_pool (n : Nat) (h1 : 1 ≤ n) (h2 : n ≤ 64) (z : Int) (z1 : 1 ≤ z) (z2 : z ≤ 256) (w : World) :
    Calls Tryz.prog 5 #[.agg #[.int .u8 5, .int .u32 n, .int .u32 z]] w fun e w' => ∃ p q B, e = .returned (.tuple #[.pointer (some ⟨p, 0, none⟩), .int .i64 0]) ∧ Plt w' p q B z (List.replicate n 0) ∧ w.heap.size ≤ p ∧ w.heap.size ≤ q ∧ w.heap.size ≤ B ∧ w.grownBy w' none := by
  have hwr : IntKind.i64.wrap (n : Int) = n := by rw [IntKind.wrap_i64]; omega
  have hwz : IntKind.i64.wrap z = z := by rw [IntKind.wrap_i64]; omega
  go_enter Tryz.func5, Tryz.ntmps5
  go_wp2_with (go_at_call 17; refine (PolN.new_ok n _ z rfl h1 h2 z1 z2 _).mono ?_; rintro e wr ⟨rfl, hq, hg, hsz⟩; have hp := (hg.block (w.heap.size + 1) (by simp) (by simp)).trans (heap2_1 w _ _); have p3 := cell_of (i := 3) (v := .nilIface) hp rfl; have z3 := frozen_of (i := 3) hp; have hp1 : w.heap.size + 1 < wr.heap.size := (Array.getElem?_eq_some_iff.1 hp).1; replace hp := Lib.hid hp; replace hq := Lib.hid hq; replace hg := Lib.hid hg; replace hsz := Lib.hid hsz)
  go_ret2
  have hq' : PolN.Pl wr (w.heap.size + 1 + 1) (List.replicate n 0) := by simpa using hq.out
  have hs' : wr.heap.size = w.heap.size + 1 + 1 + 1 := by simpa using hsz.out
  have hg' := grown_trans (grown_alloc (World.grownBy_alloc w (.cells #[.int .u8 5, .int .u32 n, .int .u32 z] 25) none) _) hg.out
  have hS := grownBy_setCell wr (w.heap.size + 1) 3 (.iface 84 (.pointer (some ⟨wr.heap.size, 0, none⟩)))
  have hZ : (wr.setCell ⟨w.heap.size + 1, 3, none⟩ (.iface 84 (.pointer (some ⟨wr.heap.size, 0, none⟩)))).heap.size = wr.heap.size := by simp [World.setCell]
  refine ⟨w.heap.size + 1, wr.heap.size, w.heap.size + 1 + 1, rfl, ⟨?_, ?_, (hq'.kept hS (by simp)).keep (World.grownBy_alloc _ _ _), by omega, by omega⟩, by omega, by omega, by omega, grown_alloc (grown_step hg' hS (by omega)) _⟩
  · rw [List.length_replicate]; exact (Hd.made _ _ hp.out).keep (World.grownBy_alloc _ _ _)
  · have := World.alloc_heap_new (wr.setCell ⟨w.heap.size + 1, 3, none⟩ (.iface 84 (.pointer (some ⟨wr.heap.size, 0, none⟩)))) (.cells #[.pointer (some ⟨w.heap.size + 1 + 1, 0, none⟩)] 86)
    rw [hZ] at this
    exact this
end Go.Proofs.YtneamjaglgnmkaaGreatDoor
