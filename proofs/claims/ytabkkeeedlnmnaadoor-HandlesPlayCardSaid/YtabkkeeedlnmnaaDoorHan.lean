/- What the functions of package handles do, said of tables. -/
import Derived.Test.YtabkkeeedlnmnaaDoorRows
import Derived.Test.YtabkkeeedlnmnaaDoorBase
namespace Go.Proofs.YtabkkeeedlnmnaaDoor
open Go.RowKit Go.Shelf Tk
set_option linter.unusedVariables false
set_option linter.unusedSimpArgs false

/-- A table: of each place its last generation, and whether somebody has it; how many places. -/
structure Tab where
  age : Nat → Nat
  tk : Nat → Bool
  many : Nat
/-- Its cells. -/
def Tab.v (t : Tab) (i : Nat) : Value :=
  if i = 512 then .int .i64 t.many else if i % 2 = 0 then .int .u32 (t.age (i / 2)) else .bool (t.tk (i / 2))
def tab0 (n : Nat) : Tab := ⟨fun _ => 0, fun _ => false, n⟩

/-- The cells of a table as they are made. -/
def tabZ : Array Value := ((List.range 513).map (tab0 0).v).toArray
theorem tabZ_size : tabZ.size = 513 := by simp [tabZ]
theorem zeroTab (w : World) : (zeroValue 112).run Tryd.prog w = .ok (.agg tabZ) w := by kernel_rfl
theorem tab0_v (n i : Nat) : (tab0 n).v i = if i = 512 then .int .i64 n else (tab0 0).v i := by
  unfold Tab.v tab0; split <;> rfl

set_option maxRecDepth 100000 in
set_option maxHeartbeats 1000000 in
theorem new_any (n : Nat) (h1 : 1 ≤ n) (h2 : n ≤ 256) (w : World) :
    Calls Tryd.prog 15 #[.int .i64 n] w fun e w' => e = .returned (.tuple #[.pointer (some ⟨w.heap.size, 0, none⟩), .int .i64 0]) ∧ Arr w' w.heap.size 513 (tab0 n).v ∧ w.grownBy w' none ∧ w'.heap.size = w.heap.size + 1 := by
  have hz := zeroTab
  have hs := tabZ_size
  go_enter Tryd.func15, Tryd.ntmps15
  go_wp2
  go_ret2
  refine ⟨rfl, Arr.new _ _ _ _ _ (by simp [hs]) (fun i hi => ?_), World.grownBy_alloc _ _ _, by simp⟩
  rw [tab0_v]
  by_cases e : i = 512
  · subst e; simp [hs]
  · rw [Array.getElem?_setIfInBounds_ne (fun h => e h.symm), if_neg e]; simp [tabZ, hi]
set_option maxHeartbeats 1000000 in
theorem new_bad (n : Int) (h : n < 1 ∨ 256 < n) (w : World) :
    Calls Tryd.prog 15 #[.int .i64 n] w fun e w' => e = .returned (.tuple #[.pointer none, .int .i64 1]) ∧ w = w' := by
  rcases h with h | h
  · go_enter Tryd.func15, Tryd.ntmps15
    go_wp2
    go_ret2
    exact ⟨rfl, rfl⟩
  · have h' : ¬ n < 1 := by omega
    go_enter Tryd.func15, Tryd.ntmps15
    go_wp2
    go_ret2
    exact ⟨rfl, rfl⟩

theorem Tab.v_age (t : Tab) {i : Nat} (h : i < 256) : t.v (i * 2) = .int .u32 (t.age i) := by
  unfold Tab.v; rw [if_neg (by omega), if_pos (by omega)]; congr 2; congr 1; omega
theorem Tab.v_tk (t : Tab) {i : Nat} (h : i < 256) : t.v (i * 2 + 1) = .bool (t.tk i) := by
  unfold Tab.v; rw [if_neg (by omega), if_neg (by omega)]; congr 2; omega
theorem Tab.v_many (t : Tab) : t.v 512 = .int .i64 t.many := by simp [Tab.v]
/-- Ages that may be, and places that may be. -/
def Tab.ok (t : Tab) : Prop := (∀ i, t.age i ≤ 16777215) ∧ 1 ≤ t.many ∧ t.many ≤ 256
/-- Somebody has the place's next handle. -/
def Tab.take (t : Tab) (k : Nat) : Tab := { t with age := fun i => if i = k then t.age k + 1 else t.age i, tk := fun i => if i = k then true else t.tk i }
/-- A place's last handle is dropped. -/
def Tab.let (t : Tab) (k : Nat) : Tab := { t with tk := fun i => if i = k then false else t.tk i }
/-- May a place be given? -/
def Tab.free (t : Tab) (i : Nat) : Bool := !t.tk i && decide (t.age i < 16777215)
/-- A place's last handle. -/
def Tab.h (t : Tab) (i : Nat) : Nat := t.age i * 256 + i

theorem or_low (a i : Nat) (ha : a ≤ 16777215) (hi : i < 256) : bits .or .u32 (((a : Int) * 256)) (i : Int) = ((a * 256 + i : Nat) : Int) := by
  have := bits_join .u32 32 (by decide) (fun n h0 h1 => by rw [IntKind.wrap_u32]; omega) 8 ((a : Int) * 256) (i : Int) (by omega) (by omega) (by omega) (by omega) (by omega) (by omega)
  rw [this]; simp

set_option maxHeartbeats 1000000 in
theorem handle_any (t : Tab) (b k : Nat) (hk : k < 256) (ha : t.age k ≤ 16777215) (w : World) (hA : Arr w b 513 t.v) :
    Calls Tryd.prog 98 #[.pointer (some ⟨b, 0, none⟩), .int .i64 k] w fun e w' => e = .returned (.int .u32 (t.h k)) ∧ w = w' := by
  have hc := hA.cell (i := k * 2) (by omega)
  rw [t.v_age hk] at hc
  have hor := or_low (t.age k) k ha hk
  have hh : Hid ((t.age k * 256 + k : Nat) = t.h k) := rfl
  generalize t.age k = a at *
  go_enter Tryd.func98, Tryd.ntmps98
  go_wp2
  go_ret
  exact ⟨by rw [← hh.out]; rfl, rfl⟩
end Go.Proofs.YtabkkeeedlnmnaaDoor
