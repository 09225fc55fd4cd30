/- Package pools. -/
import Derived.Test.YtneamjaglgnmkaaGreatDoorRows
import Derived.Test.YtneamjaglgnmkaaGreatDoorOwn
namespace Go.Proofs.YtneamjaglgnmkaaGreatDoor.PolN
open Go.RowKit Go.Shelf Tk
set_option linter.unusedVariables false
set_option linter.unusedSimpArgs false

theorem infoWord : (Tryz.prog.info? 23).map (fun i => (i.zero, i.size, i.bytes)) = some (some (.int .u32 0), 1, 4) := by kernel_rfl
/-- A pool's cells: 64 owners, how many blocks. -/
def pv (os : List Int) (i : Nat) : Value := if i < 64 then .int .u32 (gd os i) else .int .i64 os.length
theorem pv_lo {os : List Int} {i : Nat} (h : i < 64) : pv os i = .int .u32 (gd os i) := by simp [pv, h]
theorem pv_64 (os : List Int) : pv os 64 = .int .i64 os.length := by simp [pv]
/-- A pool whose blocks have these owners. -/
structure Pl (w : World) (B : Nat) (os : List Int) : Prop where
  arr : Arr w B 65 (pv os)
  n1 : 1 ≤ os.length
  n64 : os.length ≤ 64
theorem Pl.kept {w w' : World} {B : Nat} {os : List Int} {r : Option Nat} (h : Pl w B os) (hg : w.grownBy w' r) (hr : r ≠ some B) : Pl w' B os := ⟨h.arr.kept hg hr, h.n1, h.n64⟩
theorem Pl.keep {w w' : World} {B : Nat} {os : List Int} (h : Pl w B os) (hg : w.grownBy w' none) : Pl w' B os := h.kept hg (by simp)
theorem Pl.drewN {w : World} {B : Nat} {os : List Int} (h : Pl w B os) (n : Nat) : Pl (w.drewN n) B os := h.keep (grown_drewN (grown_refl _ _) n)
theorem Pl.many {w : World} {B : Nat} {os : List Int} (h : Pl w B os) : w.cell? ⟨B, 64, none⟩ = some (.int .i64 os.length) := by rw [h.arr.cell (by decide), pv_64]
theorem Pl.at {w : World} {B : Nat} {os : List Int} (h : Pl w B os) {i : Nat} (hi : i < 64) : w.cell? ⟨B, i, none⟩ = some (.int .u32 (gd os i)) := by rw [h.arr.cell (by omega), pv_lo hi]
theorem Pl.sl {w : World} {B : Nat} {os : List Int} (h : Pl w B os) : SlA w 0 w.heap.size .u32 (some ⟨B, 0, none⟩) os :=
  ⟨Nat.le_refl _, .inr ⟨B, 0, rfl, Nat.zero_le _, h.arr.lt, fun i hi => by
    have := h.n64
    rw [Nat.zero_add, h.at (by omega), gd_lt hi]⟩⟩
theorem gd_set {os : List Int} {i j : Nat} (hi : i < os.length) (x : Int) : gd (os.set i x) j = if j = i then x else gd os j := by
  unfold gd
  by_cases h : j = i
  · subst h; simp [hi]
  · rw [List.getElem?_set_ne (fun e => h e.symm), if_neg h]
theorem Pl.set {w : World} {B : Nat} {os : List Int} (h : Pl w B os) {i : Nat} (hi : i < os.length) (x : Int) : Pl (w.setCell ⟨B, i, none⟩ (.int .u32 x)) B (os.set i x) := by
  have h64 := h.n64
  refine ⟨(h.arr.set (k := i) (by omega) (.int .u32 x)).congr fun j hj => ?_, by rw [List.length_set]; exact h.n1, by rw [List.length_set]; exact h.n64⟩
  by_cases e : j = i
  · subst e; rw [if_pos rfl, pv_lo (by omega), gd_set hi, if_pos rfl]
  · rw [if_neg e]
    unfold pv
    rw [gd_set hi, if_neg e, List.length_set]
/-- The cells of a pool as they are made. -/
def polZ : Array Value := ((List.range 65).map (pv [])).toArray
theorem polZ_size : polZ.size = 65 := by simp [polZ]
theorem zeroPol (w : World) : (zeroValue 104).run Tryz.prog w = .ok (.agg polZ) w := by kernel_rfl
theorem gd_rep (n : Nat) (i : Nat) : gd (List.replicate n 0) i = 0 := by
  unfold gd
  by_cases h : i < n
  · simp [h]
  · rw [List.getElem?_eq_none (by simpa using h)]; rfl

set_option maxRecDepth 100000 in
set_option maxHeartbeats 1000000 in
theorem new_ok (n : Nat) (x z : Int) (hx : x = n) (h1 : 1 ≤ n) (h2 : n ≤ 64) (h3 : 1 ≤ z) (h4 : z ≤ 256) (w : World) :
    Calls Tryz.prog 17 #[.int .i64 x, .int .i64 z] w fun e w' => e = .returned (.tuple #[.pointer (some ⟨w.heap.size, 0, none⟩), .int .i64 0]) ∧ Pl w' w.heap.size (List.replicate n 0) ∧ w.grownBy w' none ∧ w'.heap.size = w.heap.size + 1 := by
  subst hx
  have hz := zeroPol
  have hs := polZ_size
  go_enter Tryz.func17, Tryz.ntmps17
  go_wp2
  go_ret2
  refine ⟨rfl, ⟨Arr.new _ _ _ _ _ (by simp [hs]) (fun i hi => ?_), by simpa using h1, by simpa using h2⟩, World.grownBy_alloc _ _ _, by simp⟩
  by_cases e : i = 64
  · subst e; simp [hs, pv]
  · rw [Array.getElem?_setIfInBounds_ne (fun h => e h.symm), pv_lo (by omega), gd_rep]
    simp [polZ, hi, pv_lo (show i < 64 by omega), gd]
theorem new_bad (x z : Int) (h : x < 1 ∨ (1 ≤ x ∧ 64 < x) ∨ (1 ≤ x ∧ x ≤ 64 ∧ z < 1) ∨ (1 ≤ x ∧ x ≤ 64 ∧ 1 ≤ z ∧ 256 < z)) (w : World) :
    Calls Tryz.prog 17 #[.int .i64 x, .int .i64 z] w fun e w' => e = .returned (.tuple #[.pointer none, .int .i64 1]) ∧ w = w' := by
  rcases h with h | ⟨h1, h⟩ | ⟨h1, h2, h⟩ | ⟨h1, h2, h3, h⟩
  all_goals
    go_enter Tryz.func17, Tryz.ntmps17
    go_wp2
    go_ret2
    exact ⟨rfl, rfl⟩
theorem there_nil (w : World) : Calls Tryz.prog 58 #[.pointer none] w fun e w' => e = .returned (.bool false) ∧ w = w' := by
  go_enter Tryz.func58, Tryz.ntmps58
  go_wp2
  go_ret
  exact ⟨rfl, rfl⟩
theorem there_ok (B m : Nat) (h : 1 ≤ m) (w : World) (hc : w.cell? ⟨B, 64, none⟩ = some (.int .i64 m)) : Calls Tryz.prog 58 #[.pointer (some ⟨B, 0, none⟩)] w fun e w' => e = .returned (.bool true) ∧ w = w' := by
  go_enter Tryz.func58, Tryz.ntmps58
  go_wp2
  go_ret
  exact ⟨by simp; omega, rfl⟩
theorem there_zero (B : Nat) (w : World) (hc : w.cell? ⟨B, 64, none⟩ = some (.int .i64 0)) : Calls Tryz.prog 58 #[.pointer (some ⟨B, 0, none⟩)] w fun e w' => e = .returned (.bool false) ∧ w = w' := by
  go_enter Tryz.func58, Tryz.ntmps58
  go_wp2
  go_ret
  exact ⟨rfl, rfl⟩
theorem Pl.there {w : World} {B : Nat} {os : List Int} (h : Pl w B os) : Calls Tryz.prog 58 #[.pointer (some ⟨B, 0, none⟩)] w fun e w' => e = .returned (.bool true) ∧ w = w' := there_ok B _ h.n1 w h.many
theorem all_ok (B m : Nat) (h1 : 1 ≤ m) (h2 : m ≤ 64) (w : World) (hc : w.cell? ⟨B, 64, none⟩ = some (.int .i64 m)) : Calls Tryz.prog 60 #[.pointer (some ⟨B, 0, none⟩)] w fun e w' => e = .returned (.slice (some ⟨B, 0, none⟩) m 64) ∧ ∃ n, w.drewN n = w' := by
  have i1 : (0 : Int) ≤ (m : Int) := by omega
  have i2 : (m : Int) ≤ 64 := by omega
  go_enter Tryz.func60, Tryz.ntmps60
  go_wp2_with fail
  first
    | go_quiet (fail)
    | go_region
  go_wp2_with fail
  go_ret
  exact ⟨rfl, _, rfl⟩
theorem Pl.all {w : World} {B : Nat} {os : List Int} (h : Pl w B os) : Calls Tryz.prog 60 #[.pointer (some ⟨B, 0, none⟩)] w fun e w' => e = .returned (.slice (some ⟨B, 0, none⟩) os.length 64) ∧ ∃ n, w.drewN n = w' := all_ok B _ h.n1 h.n64 w h.many
/-- Where v is first; -1 if it is not there. -/
def Fst (v : Int) (xs : List Int) (r : Int) : Prop := (∃ j : Nat, r = j ∧ j < xs.length ∧ gd xs j = v ∧ ∀ i, i < j → gd xs i ≠ v) ∨ (r = -1 ∧ ∀ i, i < xs.length → gd xs i ≠ v)
set_option maxRecDepth 100000 in
set_option maxHeartbeats 2000000 in
theorem index_any (A : Option Addr) (c : Nat) (xs : List Int) (v : Int) (hx : xs.length ≤ 64) (w : World) (hs : SlA w 0 w.heap.size .u32 A xs) :
    Calls Tryz.prog 139 #[.slice A xs.length c, .int .u32 v] w fun e w' => ∃ r, e = .returned (.int .i64 r) ∧ Fst v xs r ∧ ∃ n, w.drewN n = w' := by
  go_enter Tryz.func139, Tryz.ntmps139
  go_wp2_with fail
  go_loopw [8] (fun i wr => ∃ k : Nat, k ≤ xs.length ∧ i = .int .i64 k ∧ Hid (∀ j, j < k → gd xs j ≠ v) ∧ Drawn w wr) (fun i _ => xs.length - (intOf i).toNat)
  case atStart => exact ⟨0, Nat.zero_le _, rfl, fun j hj => absurd hj (Nat.not_lt_zero _), Drawn.refl _⟩
  case round =>
    obtain ⟨k, hk, rfl, hno, hdr⟩ := hrel
    by_cases hlt : k < xs.length
    · obtain ⟨b, o, rfl, hc⟩ := (hdr.sl hs).at hlt
      by_cases he : gd xs k = v
      · have hv : (v == gd xs k) = true := by rw [beq_iff_eq]; exact he.symm
        replace he := Lib.hid he
        go_wp2_with fail
        go_ret
        obtain ⟨n, rfl⟩ := hdr
        exact ⟨_, rfl, .inl ⟨k, rfl, hlt, he.out, hno.out⟩, n, rfl⟩
      · have hv : (v == gd xs k) = false := by rw [beq_eq_false_iff_ne]; exact fun h => he h.symm
        replace he := Lib.hid he
        go_wp2_with fail
        go_roundw
        case rel => exact ⟨k + 1, by omega, by go_num, fun j hj => by
          by_cases e : j = k
          · subst e; exact he.out
          · exact hno.out j (by omega), hdr⟩
        case measure => simp [intOf]; omega
    · obtain rfl : k = xs.length := by omega
      go_wp2_with fail
      go_ret
      obtain ⟨n, rfl⟩ := hdr
      exact ⟨_, rfl, .inr ⟨rfl, hno.out⟩, n, rfl⟩
end Go.Proofs.YtneamjaglgnmkaaGreatDoor.PolN
