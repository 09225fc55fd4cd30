/- Package rings. -/
import Derived.Test.YtdbddfbdhgohbaaGreatDoorRows
import Derived.Test.YtdbddfbdhgohbaaGreatDoorOwn
import Derived.OwnWalk
namespace Go.Proofs.YtdbddfbdhgohbaaGreatDoor
open Go.RowKit Go.Shelf Tk
set_option linter.unusedVariables false
set_option linter.unusedSimpArgs false

theorem infoInt : (Tryz.prog.info? 3).map (fun i => (i.zero, i.size, i.bytes)) = some (some (.int .i64 0), 1, 8) := by kernel_rfl
/-- A ring's own cells: its places, the first one, how many. -/
def rv (M m f n : Nat) (i : Nat) : Value := if i = 0 then .slice (some ⟨M, 0, none⟩) m m else if i = 1 then .int .i64 f else .int .i64 n
/-- What of a ring may be written. -/
def BM (B M : Nat) (k : Nat) : Prop := k = B ∨ k = M
/-- A ring's numbers. -/
structure Rg (w : World) (B M m : Nat) (ns : List Int) (f : Nat) (c : Nat → Int) : Prop where
  hdr : Arr w B 3 (rv M m f ns.length)
  blk : Arr w M m (fun i => .int .i64 (c i))
  ne : M ≠ B
  fl : f < m
  le : ns.length ≤ m
  mm : m ≤ 1024
  get : ∀ j, j < ns.length → c ((f + j) % m) = gd ns j
section
variable {w w' : World} {B M m : Nat} {ns : List Int} {f : Nat} {c : Nat → Int}
theorem Rg.m1 (h : Rg w B M m ns f c) : 1 ≤ m := by have := h.fl; omega
theorem Rg.keep (h : Rg w B M m ns f c) (hg : w.grownBy w' none) : Rg w' B M m ns f c := ⟨h.hdr.kept hg (by simp), h.blk.kept hg (by simp), h.ne, h.fl, h.le, h.mm, h.get⟩
theorem Rg.drewN (h : Rg w B M m ns f c) (n : Nat) : Rg (w.drewN n) B M m ns f c := h.keep (grown_drewN (grown_refl _ _) n)
theorem Rg.c0 (h : Rg w B M m ns f c) : w.cell? ⟨B, 0, none⟩ = some (.slice (some ⟨M, 0, none⟩) m m) := h.hdr.cell (i := 0) (by decide)
theorem Rg.c1 (h : Rg w B M m ns f c) : w.cell? ⟨B, 1, none⟩ = some (.int .i64 f) := h.hdr.cell (i := 1) (by decide)
theorem Rg.c2 (h : Rg w B M m ns f c) : w.cell? ⟨B, 2, none⟩ = some (.int .i64 ns.length) := h.hdr.cell (i := 2) (by decide)
theorem Rg.at (h : Rg w B M m ns f c) {i : Nat} (hi : i < m) : w.cell? ⟨M, i, none⟩ = some (.int .i64 (c i)) := h.blk.cell hi
end
theorem Fr.drawn {S : Nat → Prop} {a b : World} (h : Fr S a b) (n : Nat) : Fr S a (b.drewN n) := h.drewN n
theorem fr_drewN (S : Nat → Prop) (w : World) (n : Nat) : Fr S w (w.drewN n) := (Fr.refl S w).drewN n
theorem fr_grown {S : Nat → Prop} {a b : World} (h : a.grownBy b none) : Fr S a b := Fr.of_grown h (by simp)
/-- Behind a step on the ring alone. -/
theorem fr_step {a b c : World} {B M : Nat} (h : a.grownBy b none) (g : Fr (BM B M) b c) (hB : a.heap.size ≤ B) (hM : a.heap.size ≤ M) : a.grownBy c none :=
  ((fr_grown h).trans g).grown (fun k hk hs => by rcases hs with rfl | rfl <;> omega)
theorem there_nil (w : World) : Calls Tryz.prog 67 #[.pointer none] w fun e w' => e = .returned (.bool false) ∧ w = w' := by
  go_enter Tryz.func67, Tryz.ntmps67
  go_wp2
  go_ret
  exact ⟨rfl, rfl⟩
theorem there_zero (B : Nat) (w : World) (hc : w.cell? ⟨B, 0, none⟩ = some (.slice none 0 0)) : Calls Tryz.prog 67 #[.pointer (some ⟨B, 0, none⟩)] w fun e w' => e = .returned (.bool false) ∧ w = w' := by
  go_enter Tryz.func67, Tryz.ntmps67
  go_wp2
  go_ret
  exact ⟨rfl, rfl⟩
theorem Rg.there {w : World} {B M m : Nat} {ns : List Int} {f : Nat} {c : Nat → Int} (h : Rg w B M m ns f c) : Calls Tryz.prog 67 #[.pointer (some ⟨B, 0, none⟩)] w fun e w' => e = .returned (.bool true) ∧ w = w' := by
  have hc := h.c0
  have hm := h.m1
  go_enter Tryz.func67, Tryz.ntmps67
  go_wp2
  go_ret
  exact ⟨by simp; omega, rfl⟩
theorem at_any (B M m f k : Nat) (i : Int) (hi : 0 ≤ i ∧ i ≤ 1024) (hf : f < m) (hm : m ≤ 1024) (hk : ((f : Int) + i) % (m : Int) = k) (w : World) (hc0 : w.cell? ⟨B, 0, none⟩ = some (.slice (some ⟨M, 0, none⟩) m m)) (hc1 : w.cell? ⟨B, 1, none⟩ = some (.int .i64 f)) :
    Calls Tryz.prog 68 #[.pointer (some ⟨B, 0, none⟩), .int .i64 i] w fun e w' => e = .returned (.pointer (some ⟨M, k, none⟩)) ∧ ∃ n, w.drewN n = w' := by
  obtain ⟨hi1, hi2⟩ := hi
  have hm0 : (0 : Int) < (m : Int) := by omega
  have hk2 : k < m := by have := Int.emod_lt_of_pos ((f : Int) + i) hm0; omega
  have hkI : (k : Int) < (m : Int) := by omega
  have hk0 : (0 : Int) ≤ (k : Int) := by omega
  have hwr : IntKind.i64.wrap ((f : Int) + i) = (f : Int) + i := by rw [IntKind.wrap_i64]; omega
  have htm : ((f : Int) + i).tmod (m : Int) = (k : Int) := by rw [Int.tmod_eq_emod_of_nonneg (by omega)]; exact hk
  go_enter Tryz.func68, Tryz.ntmps68
  go_wp2_with fail
  go_quiet (fail)
  go_wp2_with fail
  go_ret
  exact ⟨rfl, _, rfl⟩
end Go.Proofs.YtdbddfbdhgohbaaGreatDoor
