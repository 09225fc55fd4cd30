/- Package pools: what is done with a pool. -/
import Derived.Test.YtneamjaglgnmkaaGreatDoorPolN1
namespace Go.Proofs.YtneamjaglgnmkaaGreatDoor.PolN
open Go.RowKit Go.Shelf Tk
set_option linter.unusedVariables false
set_option linter.unusedSimpArgs false

theorem SlA_src {w : World} {lo hi : Nat} {k : IntKind} {ad : Addr} {xs : List Int} (h : SlA w lo hi k (some ad) xs) : ∀ j u, (xs.map (Value.int k))[j]? = some u → w.cell? (ad.add j) = some u := by
  intro j u hu
  have hj : j < xs.length := by
    by_cases hj : j < xs.length
    · exact hj
    · rw [List.getElem?_eq_none (by simpa using hj)] at hu; cases hu
  rcases h.2 with h' | ⟨b, o, hA, -⟩
  · rw [h'] at hj; simp at hj
  · cases hA
    have e0 : ((⟨b, o, none⟩ : Addr).add j) = ⟨b, o + j, none⟩ := by
      unfold Addr.add; by_cases hi0 : j = 0 <;> simp [hi0]
    rw [e0, h.cell hj, gd_lt hj]
    rw [List.getElem?_map, List.getElem?_eq_getElem hj] at hu
    exact hu
theorem nilTestW (w : World) (a : Option Addr) (n c n' c' : Nat) : (binOp .eql 53 (.slice a n c) (.slice none n' c')).run Tryz.prog w = .ok (.bool a.isNone) w := Lib.run_eql_slice_nil w _ _ a n c n' c' Tryz.underlying53
set_option maxRecDepth 100000 in
set_option maxHeartbeats 1000000 in
theorem clone_ok (ad : Addr) (c : Nat) (xs : List Int) (hl : xs.length ≤ 64) (w : World) (hs : SlA w 0 w.heap.size .u32 (some ad) xs) :
    Calls Tryz.prog 59 #[.slice (some ad) xs.length c] w fun x w' => ∃ A c, x = .returned (.slice A xs.length c) ∧ xs.length ≤ c ∧ Mine w' w.heap.size 23 .u32 (.slice A xs.length c) xs ∧ w.grownBy w' none := by
  obtain ⟨i0, hi, hz0, hz1, hz2⟩ := info_parts infoWord
  have hnews : Hid (∀ j u, (xs.map (Value.int .u32))[j]? = some u → (w.alloc (.cells #[] 23)).cell? (ad.add j) = some u) := SlA_src (hs.alloc _)
  have hown : (w.alloc (.cells #[] 23)).ownsRow w.heap.size 23 1 (.slice (some ⟨w.heap.size, 0, none⟩) 0 0) 0 [] :=
    ⟨rfl, .inr ⟨w.heap.size, 0, #[], rfl, Nat.le_refl _, heap_alloc_new w _, Nat.le_refl _, by simp, rfl, rfl⟩⟩
  have hgA := World.grownBy_alloc w (.cells #[] 23) none
  have hnt := nilTestW
  go_enter Tryz.func59, Tryz.ntmps59
  go_wp2_with (at_builtin; refine wpList_append_own _ rfl _ _ 53 rfl w.heap.size 23 i0 (.int .u32 0) 1 4 Tryz.underlying53 hi hz0 hz1 hz2 rfl (by decide) (.slice (some ⟨w.heap.size, 0, none⟩) 0 0) 0 [] rfl hown ad xs.length c (xs.map (Value.int .u32)) rfl (by simp) hnews.out (by simp [Value.oneCell']) (by unfold maxLen; omega) (by omega) (by simp) ?_; intro v' w1 hown' hgrow _)
  have hM : Mine w1 w.heap.size 23 .u32 v' xs := by
    unfold Mine; simpa using hown'
  obtain ⟨A, c, rfl, h1, h2, h3⟩ := hM.form
  go_ret
  exact ⟨A, c, rfl, h1, hM, grown_step hgA hgrow (Nat.le_refl _)⟩
/-- All owners, told. -/
theorem owners_ok {B : Nat} {os : List Int} (w : World) (h : Pl w B os) :
    Calls Tryz.prog 24 #[.pointer (some ⟨B, 0, none⟩)] w fun x w' => ∃ A c, x = .returned (.slice A os.length c) ∧ os.length ≤ c ∧ Mine w' w.heap.size 23 .u32 (.slice A os.length c) os ∧ w.grownBy w' none := by
  go_enter Tryz.func24, Tryz.ntmps24
  go_wp2_with fail
  refine h.there.mono ?_; rintro e w' ⟨rfl, rfl⟩
  go_wp2_with fail
  refine h.all.mono ?_; rintro e w' ⟨rfl, n, rfl⟩
  have hs := (h.drewN n).sl
  go_wp2_with fail
  refine (clone_ok _ 64 os h.n64 _ hs).mono ?_; rintro e w' ⟨A, c, rfl, h1, h2, h3⟩
  go_wp2_with fail
  go_ret
  exact ⟨A, c, rfl, h1, h2, grown_trans (grown_drewN (grown_refl _ _) n) h3⟩
/-- A block for somebody. -/
theorem alloc_any {B : Nat} {os : List Int} (v : Int) (hv : v ≠ 0) (w : World) (h : Pl w B os) :
    Calls Tryz.prog 136 #[.pointer (some ⟨B, 0, none⟩), .int .u32 v] w fun e w' =>
      (∃ j : Nat, e = .returned (.tuple #[.int .i64 j, .int .i64 0]) ∧ j < os.length ∧ gd os j = 0 ∧ (∀ i, i < j → gd os i ≠ 0) ∧ Pl w' B (os.set j v) ∧ w.grownBy w' (some B)) ∨
      (e = .returned (.tuple #[.int .i64 0, .int .i64 11]) ∧ (∀ i, i < os.length → gd os i ≠ 0) ∧ ∃ n, w.drewN n = w') := by
  have hv0 : (v == 0) = false := by rw [beq_eq_false_iff_ne]; exact hv
  have h64 := h.n64
  replace hv := Lib.hid hv
  go_enter Tryz.func136, Tryz.ntmps136
  go_wp2_with fail
  refine h.there.mono ?_; rintro e w' ⟨rfl, rfl⟩
  go_wp2_with fail
  refine h.all.mono ?_; rintro e w' ⟨rfl, n, rfl⟩
  have h1 := h.drewN n
  go_wp2_with fail
  refine (index_any _ 64 os 0 h64 _ h1.sl).mono ?_
  rintro e w' ⟨r, rfl, hr, n2, rfl⟩
  have h2 := h1.drewN n2
  have hg : w.grownBy ((w.drewN n).drewN n2) none := grown_drewN (grown_drewN (grown_refl _ _) _) _
  rcases hr with ⟨j, rfl, hj, hg0, hmin⟩ | ⟨rfl, hfull⟩
  · have hj64 : j < 64 := by omega
    have hcj := h.at hj64
    have hfj := h.arr.frozen j
    replace hmin := Lib.hid hmin
    replace hg0 := Lib.hid hg0
    go_wp2_with fail
    go_ret2
    exact .inl ⟨j, rfl, hj, hg0.out, hmin.out, (h.drewN (n + n2)).set hj v, grown_trans (grown_drewN (grown_refl _ _) (n + n2)) (grownBy_setCell _ _ _ _)⟩
  · replace hfull := Lib.hid hfull
    go_wp2_with fail
    go_ret2
    exact .inr ⟨rfl, hfull.out, n + n2, rfl⟩
theorem alloc_zero {B : Nat} {os : List Int} (w : World) (h : Pl w B os) :
    Calls Tryz.prog 136 #[.pointer (some ⟨B, 0, none⟩), .int .u32 0] w fun e w' => e = .returned (.tuple #[.int .i64 0, .int .i64 1]) ∧ w = w' := by
  go_enter Tryz.func136, Tryz.ntmps136
  go_wp2_with fail
  refine h.there.mono ?_; rintro e w' ⟨rfl, rfl⟩
  go_wp2_with fail
  go_ret2
  exact ⟨rfl, rfl⟩
/-- One is taken back. -/
theorem free_ok {B : Nat} {os : List Int} (v : Int) (hv : v ≠ 0) (j : Nat) (hj : j < os.length) (hw : gd os j = v) (w : World) (h : Pl w B os) :
    Calls Tryz.prog 137 #[.pointer (some ⟨B, 0, none⟩), .int .u32 v, .int .i64 j] w fun e w' => e = .returned (.int .i64 0) ∧ Pl w' B (os.set j 0) ∧ w.grownBy w' (some B) := by
  have hv0 : (v == 0) = false := by rw [beq_eq_false_iff_ne]; exact hv
  have h64 := h.n64
  have hmn := h.many
  have hj64 : j < 64 := by omega
  have hcj := h.at hj64
  have hfj := h.arr.frozen j
  rw [hw] at hcj
  have hge : ¬ os.length ≤ j := by omega
  replace hv := Lib.hid hv
  replace hw := Lib.hid hw
  have hj' := Lib.hid hj
  clear hj
  go_enter Tryz.func137, Tryz.ntmps137
  go_wp2_with fail
  refine h.there.mono ?_; rintro e w' ⟨rfl, rfl⟩
  go_wp2_with fail
  go_ret
  exact ⟨rfl, h.set hj'.out 0, grownBy_setCell _ _ _ _⟩
theorem free_owner {B : Nat} {os : List Int} (v : Int) (hv : v ≠ 0) (j : Nat) (hj : j < os.length) (hw : gd os j ≠ v) (w : World) (h : Pl w B os) :
    Calls Tryz.prog 137 #[.pointer (some ⟨B, 0, none⟩), .int .u32 v, .int .i64 j] w fun e w' => e = .returned (.int .i64 13) ∧ w = w' := by
  have hv0 : (v == 0) = false := by rw [beq_eq_false_iff_ne]; exact hv
  have h64 := h.n64
  have hmn := h.many
  have hj64 : j < 64 := by omega
  have hcj := h.at hj64
  have hne : (gd os j != v) = true := by simp [hw]
  have hge : ¬ os.length ≤ j := by omega
  replace hv := Lib.hid hv
  replace hw := Lib.hid hw
  have hj' := Lib.hid hj
  clear hj
  go_enter Tryz.func137, Tryz.ntmps137
  go_wp2_with fail
  refine h.there.mono ?_; rintro e w' ⟨rfl, rfl⟩
  go_wp2_with fail
  go_ret
  exact ⟨rfl, rfl⟩
theorem free_arg {B : Nat} {os : List Int} (v b : Int) (hb : v = 0 ∨ b < 0 ∨ (os.length : Int) ≤ b) (w : World) (h : Pl w B os) :
    Calls Tryz.prog 137 #[.pointer (some ⟨B, 0, none⟩), .int .u32 v, .int .i64 b] w fun e w' => e = .returned (.int .i64 1) ∧ w = w' := by
  have hmn := h.many
  have hcases : (v == 0) = true ∨ ((v == 0) = false ∧ decide (b < 0) = true) ∨ ((v == 0) = false ∧ decide (b < 0) = false ∧ decide ((os.length : Int) ≤ b) = true) := by
    simp only [beq_iff_eq, beq_eq_false_iff_ne, decide_eq_true_eq, decide_eq_false_iff_not]; omega
  clear hb
  rcases hcases with d0 | ⟨d0, d1⟩ | ⟨d0, d1, d2⟩
  all_goals
    go_enter Tryz.func137, Tryz.ntmps137
    go_wp2_with fail
    refine h.there.mono ?_; rintro e w' ⟨rfl, rfl⟩
    go_wp2_with fail
    go_ret
    exact ⟨rfl, rfl⟩
end Go.Proofs.YtneamjaglgnmkaaGreatDoor.PolN
