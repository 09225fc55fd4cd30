/- Package objects: a pool as a thing. -/
import Derived.Test.YtneamjaglgnmkaaGreatDoorObR
import Derived.Test.YtneamjaglgnmkaaGreatDoorPolN3
namespace Go.Proofs.YtneamjaglgnmkaaGreatDoor
open Go.RowKit Go.Shelf Tk
set_option linter.unusedVariables false
set_option linter.unusedSimpArgs false
def PolB (w : World) (q B : Nat) : Prop := w.heap[q]? = some (.cells #[.pointer (some ⟨B, 0, none⟩)] 86 (0, 0))
theorem PolB.lt {w : World} {q B : Nat} (h : PolB w q B) : q < w.heap.size := (Array.getElem?_eq_some_iff.1 h).1
theorem PolB.kept {w w' : World} {q B : Nat} {r : Option Nat} (h : PolB w q B) (hg : w.grownBy w' r) (hr : r ≠ some q) : PolB w' q B := (hg.block q h.lt (fun e => hr e.symm)).trans h
set_option maxRecDepth 100000 in
set_option maxHeartbeats 4000000 in
theorem PolB.qleave {w : World} {q B : Nat} {os : List Int} (h : PolB w q B) (hq : PolN.Pl w B os) (who : Int) (hw : who ≠ 0) :
    Calls Tryz.prog 133 #[.pointer (some ⟨q, 0, none⟩), .int .u32 who] w fun e w' => e = .returned (.bool (decide (0 < os.count who))) ∧ PolN.Pl w' B (os.map fun x => if x = who then 0 else x) ∧ w.grownBy w' (some B) := by
  have c0 := cell_of (i := 0) (v := .pointer (some ⟨B, 0, none⟩)) h rfl
  have ha := Lib.hid (PolN.all_blocks who hw w hq)
  clear h hq hw
  go_enter Tryz.func133, Tryz.ntmps133
  go_wp2_with (go_at_call 135; refine ha.out.mono ?_; rintro e wr ⟨rfl, hp, hg⟩; replace hp := Lib.hid hp; replace hg := Lib.hid hg)
  go_ret
  exact ⟨by simp, hp.out, hg.out⟩
set_option maxRecDepth 100000 in
set_option maxHeartbeats 4000000 in
theorem PolB.qalloc {w : World} {q B : Nat} {os : List Int} (h : PolB w q B) (hq : PolN.Pl w B os) (who : Int) (hw : who ≠ 0) (hh v x t : Int) :
    Calls Tryz.prog 134 #[.pointer (some ⟨q, 0, none⟩), .int .u32 who, askV 14 hh v x t] w fun e w' =>
      (∃ j : Nat, e = .returned (.tuple #[.int .u32 j, .int .i64 0]) ∧ j < os.length ∧ gd os j = 0 ∧ (∀ i, i < j → gd os i ≠ 0) ∧ PolN.Pl w' B (os.set j who) ∧ w.grownBy w' (some B)) ∨
      (e = .returned (.tuple #[.int .u32 0, .int .i64 7]) ∧ (∀ i, i < os.length → gd os i ≠ 0) ∧ w.grownBy w' none) := by
  have c0 := cell_of (i := 0) (v := .pointer (some ⟨B, 0, none⟩)) h rfl
  have hlt := h.lt
  have ha := Lib.hid (fun W (hg : w.grownBy W none) => PolN.alloc_any who hw W (hq.keep hg))
  have h64 := hq.n64
  have hw0 : IntKind.u32.wrap 0 = 0 := by rw [IntKind.wrap_u32]; rfl
  clear h hq hw
  unfold askV
  go_enter Tryz.func134, Tryz.ntmps134
  go_wp2_with fail
  refine (ha.out _ (World.grownBy_alloc _ _ none)).mono ?_
  rintro e wr (⟨j, rfl, h1, h2, h3, hp, hg⟩ | ⟨rfl, h3, n, rfl⟩)
  · have hwj : IntKind.u32.wrap (j : Int) = j := by rw [IntKind.wrap_u32]; omega
    replace h3 := Lib.hid h3
    replace hp := Lib.hid hp
    replace hg := Lib.hid hg
    replace h2 := Lib.hid h2
    replace h1 := Lib.hid h1
    go_wp2_with (go_at_call 121; refine (yet_ok _ _).mono ?_; rintro e wy ⟨rfl, rfl⟩)
    go_ret2
    exact .inl ⟨j, rfl, h1.out, h2.out, h3.out, hp.out, grown_trans (World.grownBy_alloc _ _ _) hg.out⟩
  · replace h3 := Lib.hid h3
    go_wp2_with (go_at_call 121; refine (yet_no _ _ (by decide) _).mono ?_; rintro e wy ⟨rfl, rfl⟩)
    go_ret2
    exact .inr ⟨rfl, h3.out, grown_drewN (World.grownBy_alloc _ _ _) n⟩
set_option maxRecDepth 100000 in
set_option maxHeartbeats 4000000 in
theorem PolB.qfree {w : World} {q B : Nat} {os : List Int} (h : PolB w q B) (hq : PolN.Pl w B os) (who : Int) (hw : who ≠ 0) (j : Nat) (hj : j < os.length) (ho : gd os j = who) (hh x t : Int) :
    Calls Tryz.prog 134 #[.pointer (some ⟨q, 0, none⟩), .int .u32 who, askV 15 hh j x t] w fun e w' => e = .returned (.tuple #[.int .u32 0, .int .i64 0]) ∧ PolN.Pl w' B (os.set j 0) ∧ w.grownBy w' (some B) := by
  have c0 := cell_of (i := 0) (v := .pointer (some ⟨B, 0, none⟩)) h rfl
  have hlt := h.lt
  have ha := Lib.hid (fun W (hg : w.grownBy W none) => PolN.free_ok who hw j hj ho W (hq.keep hg))
  have h64 := hq.n64
  have hj64 : j < 64 := by omega
  have hwj : IntKind.i64.wrap (j : Int) = j := by rw [IntKind.wrap_i64]; omega
  clear h hq hw hj ho
  unfold askV
  go_enter Tryz.func134, Tryz.ntmps134
  go_wp2_with fail
  first | go_region_with (go_at_call 137; refine (ha.out _ (grown_drewN (World.grownBy_alloc _ _ none) 1)).mono ?_; rintro e wr ⟨rfl, hp, hg⟩; replace hp := Lib.hid hp; replace hg := Lib.hid hg) | fail
  all_goals go_wp2_with fail
  all_goals go_ret2
  all_goals exact ⟨rfl, hp.out, grown_trans (grown_drewN (World.grownBy_alloc _ _ _) 1) hg.out⟩
set_option maxRecDepth 100000 in
set_option maxHeartbeats 4000000 in
theorem PolB.qfree_no {w : World} {q B : Nat} {os : List Int} (h : PolB w q B) (hq : PolN.Pl w B os) (who : Int) (hw : who ≠ 0) (j : Nat) (hj : j < os.length) (ho : gd os j ≠ who) (hh x t : Int) :
    Calls Tryz.prog 134 #[.pointer (some ⟨q, 0, none⟩), .int .u32 who, askV 15 hh j x t] w fun e w' => e = .returned (.tuple #[.int .u32 0, .int .i64 13]) ∧ w.grownBy w' none := by
  have c0 := cell_of (i := 0) (v := .pointer (some ⟨B, 0, none⟩)) h rfl
  have hlt := h.lt
  have ha := Lib.hid (fun W (hg : w.grownBy W none) => PolN.free_owner who hw j hj ho W (hq.keep hg))
  have h64 := hq.n64
  have hj64 : j < 64 := by omega
  have hwj : IntKind.i64.wrap (j : Int) = j := by rw [IntKind.wrap_i64]; omega
  clear h hq hw hj ho
  unfold askV
  go_enter Tryz.func134, Tryz.ntmps134
  go_wp2_with fail
  first | go_region_with (go_at_call 137; refine (ha.out _ (grown_drewN (World.grownBy_alloc _ _ none) 1)).mono ?_; rintro e wr ⟨rfl, rfl⟩) | fail
  all_goals go_wp2_with fail
  all_goals go_ret2
  all_goals exact ⟨rfl, grown_drewN (World.grownBy_alloc _ _ _) 1⟩
end Go.Proofs.YtneamjaglgnmkaaGreatDoor
