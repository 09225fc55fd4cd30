/- Package tasks: what may be asked of which kind. -/
import Derived.Test.YtneamjaglgnmkaaGreatDoorRows
import Derived.Test.YtneamjaglgnmkaaGreatDoorOwn
import Derived.Handy
namespace Go.Proofs.YtneamjaglgnmkaaGreatDoor
open Go.RowKit Go.Shelf Tk
set_option linter.unusedVariables false
set_option linter.unusedSimpArgs false
/-- All that may be asked of things. -/
def askL : List Int := [3, 4, 5, 6, 7, 8, 9, 10, 11, 12, 13, 14, 15, 16, 17]
theorem cell_of {w : World} {B i : Nat} {c : Array Value} {T : TypeId} {v : Value} (h : w.heap[B]? = some (.cells c T (0, 0))) (hi : c[i]? = some v) : w.cell? ⟨B, i, none⟩ = some v := by
  unfold World.cell?; simp only [h]; exact hi
theorem frozen_of {w : World} {B i : Nat} {c : Array Value} {T : TypeId} (h : w.heap[B]? = some (.cells c T (0, 0))) : w.frozen? ⟨B, i, none⟩ = false := by
  unfold World.frozen?; simp [h]
def kindsV (A : Nat) : Value := .agg #[.slice none 0 0, .int .i64 0, .slice (some ⟨A, 0, none⟩) 2 2, .int .i64 1, .slice (some ⟨A, 2, none⟩) 2 2, .int .i64 1, .slice (some ⟨A, 4, none⟩) 4 4, .int .i64 3,
  .slice (some ⟨A, 8, none⟩) 3 3, .int .i64 1, .slice (some ⟨A, 11, none⟩) 2 2, .int .i64 1, .slice (some ⟨A, 13, none⟩) 2 2, .int .i64 0]
theorem asked_ok (w : World) : Calls Tryz.prog 81 #[] w fun e w' => e = .returned (.slice (some ⟨w.heap.size, 0, none⟩) 15 15) ∧ SlA w' w.heap.size w'.heap.size .u8 (some ⟨w.heap.size, 0, none⟩) askL ∧ w.grownBy w' none := by
  go_enter Tryz.func81, Tryz.ntmps81
  go_wp2_with fail
  go_ret
  refine ⟨rfl, ?_, World.grownBy_alloc _ _ _⟩
  have := SlA.made w .u8 askL _ 37 rfl
  exact this.wide (Nat.le_refl _) (by simp) (Nat.le_refl _)
set_option maxRecDepth 100000 in
set_option maxHeartbeats 4000000 in
theorem kinds_ok (w : World) : Calls Tryz.prog 53 #[] w fun e w' => ∃ A, e = .returned (kindsV A) ∧ SlA w' w.heap.size w'.heap.size .u8 (some ⟨A, 0, none⟩) askL ∧ w.grownBy w' none := by
  go_enter Tryz.func53, Tryz.ntmps53
  go_wp2_with (go_at_call 81; refine (asked_ok _).mono ?_; rintro e wr ⟨rfl, hs, hg⟩)
  have hK : wr.heap[w.heap.size]? = some (.cells #[Value.slice none 0 0, Value.int IntKind.i64 0, Value.slice none 0 0, Value.int IntKind.i64 0,
              Value.slice none 0 0, Value.int IntKind.i64 0, Value.slice none 0 0, Value.int IntKind.i64 0,
              Value.slice none 0 0, Value.int IntKind.i64 0, Value.slice none 0 0, Value.int IntKind.i64 0,
              Value.slice none 0 0, Value.int IntKind.i64 0] _ (0, 0)) := (hg.block _ (by simp) (by simp)).trans (World.alloc_heap_new _ _)
  have hg1 := grown_trans (World.grownBy_alloc w _ none) hg
  have hs1 : SlA wr (w.heap.size + 1) wr.heap.size .u8 (some ⟨w.heap.size + 1, 0, none⟩) askL := by simpa using hs
  clear hs hg
  replace hs1 := Lib.hid hs1
  replace hg1 := Lib.hid hg1
  obtain ⟨K, hKe⟩ : ∃ K, w.heap.size = K := ⟨_, rfl⟩
  rw [hKe] at hK ⊢
  obtain ⟨D, hDe⟩ : ∃ D, K + 1 = D := ⟨_, rfl⟩
  rw [hDe]
  have c0 := cell_of (i := 0) (v := .slice none 0 0) hK rfl
  have z0 := frozen_of (i := 0) hK
  have c1 := cell_of (i := 1) (v := .int .i64 0) hK rfl
  have z1 := frozen_of (i := 1) hK
  have c2 := cell_of (i := 2) (v := .slice none 0 0) hK rfl
  have z2 := frozen_of (i := 2) hK
  have c3 := cell_of (i := 3) (v := .int .i64 0) hK rfl
  have z3 := frozen_of (i := 3) hK
  have c4 := cell_of (i := 4) (v := .slice none 0 0) hK rfl
  have z4 := frozen_of (i := 4) hK
  have c5 := cell_of (i := 5) (v := .int .i64 0) hK rfl
  have z5 := frozen_of (i := 5) hK
  have c6 := cell_of (i := 6) (v := .slice none 0 0) hK rfl
  have z6 := frozen_of (i := 6) hK
  have c7 := cell_of (i := 7) (v := .int .i64 0) hK rfl
  have z7 := frozen_of (i := 7) hK
  have c8 := cell_of (i := 8) (v := .slice none 0 0) hK rfl
  have z8 := frozen_of (i := 8) hK
  have c9 := cell_of (i := 9) (v := .int .i64 0) hK rfl
  have z9 := frozen_of (i := 9) hK
  have c10 := cell_of (i := 10) (v := .slice none 0 0) hK rfl
  have z10 := frozen_of (i := 10) hK
  have c11 := cell_of (i := 11) (v := .int .i64 0) hK rfl
  have z11 := frozen_of (i := 11) hK
  have c12 := cell_of (i := 12) (v := .slice none 0 0) hK rfl
  have z12 := frozen_of (i := 12) hK
  have c13 := cell_of (i := 13) (v := .int .i64 0) hK rfl
  have z13 := frozen_of (i := 13) hK
  clear hK
  go_region
  go_wp2_with fail
  (try simp only [Exit.inBlock, Exit.then])
  refine bodyPost_ret (v := kindsV D) (by simp [results, Tryz.results53, go_sem, kindsV, World.cell?_setCell_other, c0, c1, c2, c3, c4, c5, c6, c7, c8, c9, c10, c11, c12, c13]) rfl ?_
  subst hDe
  subst hKe
  have H : ∀ W', Fr (fun b => b = w.heap.size) wr W' → SlA W' w.heap.size W'.heap.size .u8 (some ⟨w.heap.size + 1, 0, none⟩) askL ∧ w.grownBy W' none := by
    intro W' hW
    refine ⟨((hs1.out).fr hW (fun b h1 _ e => by omega)).wide (Nat.le_succ _) hW.size (Nat.le_refl _), ?_⟩
    exact ((Fr.of_grown (S := fun b => b = w.heap.size) hg1.out (by simp)).trans hW).grown (fun k h1 h2 => by omega)
  refine ⟨_, rfl, H _ ?_⟩
  refine Fr.drew ?_
  iterate 14 refine Fr.setCell (S := fun b => b = w.heap.size) ?_ _ (fun _ => rfl) _
  exact Fr.refl _ _
/-- What may be asked of a kind. -/
def fitL (k : Nat) : List Int := match k with
  | 1 => [3, 4] | 2 => [5, 6] | 3 => [7, 8, 9, 10] | 4 => [11, 12, 13] | 5 => [14, 15] | 6 => [16, 17] | _ => []
/-- Where v is first; -1 if it is not there. -/
def Fs8 (v : Int) (xs : List Int) (r : Int) : Prop := (0 ≤ r ∧ v ∈ xs) ∨ (r = -1 ∧ v ∉ xs)
set_option maxRecDepth 100000 in
set_option maxHeartbeats 2000000 in
theorem index8 (A : Option Addr) (n c : Nat) (xs : List Int) (v : Int) (hn : n = xs.length) (hx : xs.length ≤ 64) (w : World) (lo : Nat) (hs : SlA w lo w.heap.size .u8 A xs) :
    Calls Tryz.prog 80 #[.slice A n c, .int .u8 v] w fun e w' => ∃ r, e = .returned (.int .i64 r) ∧ Fs8 v xs r ∧ ∃ n, w.drewN n = w' := by
  subst hn
  go_enter Tryz.func80, Tryz.ntmps80
  go_wp2_with fail
  go_loopw [8] (fun i wr => ∃ k : Nat, k ≤ xs.length ∧ i = .int .i64 k ∧ Hid (∀ j, j < k → gd xs j ≠ v) ∧ Drawn w wr) (fun i _ => xs.length - (intOf i).toNat)
  case atStart => exact ⟨0, Nat.zero_le _, rfl, fun j hj => absurd hj (Nat.not_lt_zero _), Drawn.refl _⟩
  case round =>
    obtain ⟨k, hk, rfl, hno, hdr⟩ := hrel
    by_cases hlt : k < xs.length
    · obtain ⟨b, o, rfl, hc⟩ := (hdr.sl hs).at hlt
      by_cases he : gd xs k = v
      · have hv : (v == gd xs k) = true := by rw [beq_iff_eq]; exact he.symm
        replace he := Lib.hid he
        go_wp2_with fail
        go_ret
        obtain ⟨n, rfl⟩ := hdr
        exact ⟨_, rfl, .inl ⟨Int.natCast_nonneg _, by rw [mem_iff_gd]; exact ⟨k, hlt, he.out⟩⟩, n, rfl⟩
      · have hv : (v == gd xs k) = false := by rw [beq_eq_false_iff_ne]; exact fun h => he h.symm
        replace he := Lib.hid he
        go_wp2_with fail
        go_roundw
        case rel => exact ⟨k + 1, by omega, by go_num, fun j hj => by
          by_cases e : j = k
          · subst e; exact he.out
          · exact hno.out j (by omega), hdr⟩
        case measure => simp [intOf]; omega
    · obtain rfl : k = xs.length := by omega
      go_wp2_with fail
      go_ret
      obtain ⟨n, rfl⟩ := hdr
      exact ⟨_, rfl, .inr ⟨rfl, by rw [mem_iff_gd]; rintro ⟨i, hi, e⟩; exact hno.out i hi e⟩, n, rfl⟩
theorem contains8 (A : Option Addr) (n c : Nat) (xs : List Int) (v : Int) (hn : n = xs.length) (hx : xs.length ≤ 64) (w : World) (lo : Nat) (hs : SlA w lo w.heap.size .u8 A xs) :
    Calls Tryz.prog 52 #[.slice A n c, .int .u8 v] w fun e w' => e = .returned (.bool (decide (v ∈ xs))) ∧ w.grownBy w' none := by
  go_enter Tryz.func52, Tryz.ntmps52
  have hi := Lib.hid (index8 A n c xs v hn hx w lo hs)
  clear hn hs hx
  go_wp2_with (go_at_call 80; refine hi.out.mono ?_; rintro e wr ⟨r, rfl, hf, q, rfl⟩)
  go_ret
  refine ⟨?_, grown_drewN (grown_refl _ _) q⟩
  rcases hf with ⟨h1, h2⟩ | ⟨rfl, h2⟩
  · simp [h1, h2]
  · simp [h2]
theorem at_kinds1 (A : Nat) (w : World) : (Instr.index 108 (Value.agg #[Value.slice none 0 0, Value.int IntKind.i64 0, Value.slice (some { block := A, off := 0 }) 2 2,
              Value.int IntKind.i64 1, Value.slice (some { block := A, off := 2 }) 2 2, Value.int IntKind.i64 1,
              Value.slice (some { block := A, off := 4 }) 4 4, Value.int IntKind.i64 3,
              Value.slice (some { block := A, off := 8 }) 3 3, Value.int IntKind.i64 1,
              Value.slice (some { block := A, off := 11 }) 2 2, Value.int IntKind.i64 1,
              Value.slice (some { block := A, off := 13 }) 2 2, Value.int IntKind.i64 0]) (Value.int .u8 1)).run Tryz.prog w = .ok (.agg #[.slice (some ⟨A, 0, none⟩) 2 2, .int .i64 1]) w := by kernel_rfl
theorem at_kinds2 (A : Nat) (w : World) : (Instr.index 108 (Value.agg #[Value.slice none 0 0, Value.int IntKind.i64 0, Value.slice (some { block := A, off := 0 }) 2 2,
              Value.int IntKind.i64 1, Value.slice (some { block := A, off := 2 }) 2 2, Value.int IntKind.i64 1,
              Value.slice (some { block := A, off := 4 }) 4 4, Value.int IntKind.i64 3,
              Value.slice (some { block := A, off := 8 }) 3 3, Value.int IntKind.i64 1,
              Value.slice (some { block := A, off := 11 }) 2 2, Value.int IntKind.i64 1,
              Value.slice (some { block := A, off := 13 }) 2 2, Value.int IntKind.i64 0]) (Value.int .u8 2)).run Tryz.prog w = .ok (.agg #[.slice (some ⟨A, 2, none⟩) 2 2, .int .i64 1]) w := by kernel_rfl
theorem at_kinds3 (A : Nat) (w : World) : (Instr.index 108 (Value.agg #[Value.slice none 0 0, Value.int IntKind.i64 0, Value.slice (some { block := A, off := 0 }) 2 2,
              Value.int IntKind.i64 1, Value.slice (some { block := A, off := 2 }) 2 2, Value.int IntKind.i64 1,
              Value.slice (some { block := A, off := 4 }) 4 4, Value.int IntKind.i64 3,
              Value.slice (some { block := A, off := 8 }) 3 3, Value.int IntKind.i64 1,
              Value.slice (some { block := A, off := 11 }) 2 2, Value.int IntKind.i64 1,
              Value.slice (some { block := A, off := 13 }) 2 2, Value.int IntKind.i64 0]) (Value.int .u8 3)).run Tryz.prog w = .ok (.agg #[.slice (some ⟨A, 4, none⟩) 4 4, .int .i64 3]) w := by kernel_rfl
theorem at_kinds4 (A : Nat) (w : World) : (Instr.index 108 (Value.agg #[Value.slice none 0 0, Value.int IntKind.i64 0, Value.slice (some { block := A, off := 0 }) 2 2,
              Value.int IntKind.i64 1, Value.slice (some { block := A, off := 2 }) 2 2, Value.int IntKind.i64 1,
              Value.slice (some { block := A, off := 4 }) 4 4, Value.int IntKind.i64 3,
              Value.slice (some { block := A, off := 8 }) 3 3, Value.int IntKind.i64 1,
              Value.slice (some { block := A, off := 11 }) 2 2, Value.int IntKind.i64 1,
              Value.slice (some { block := A, off := 13 }) 2 2, Value.int IntKind.i64 0]) (Value.int .u8 4)).run Tryz.prog w = .ok (.agg #[.slice (some ⟨A, 8, none⟩) 3 3, .int .i64 1]) w := by kernel_rfl
theorem at_kinds5 (A : Nat) (w : World) : (Instr.index 108 (Value.agg #[Value.slice none 0 0, Value.int IntKind.i64 0, Value.slice (some { block := A, off := 0 }) 2 2,
              Value.int IntKind.i64 1, Value.slice (some { block := A, off := 2 }) 2 2, Value.int IntKind.i64 1,
              Value.slice (some { block := A, off := 4 }) 4 4, Value.int IntKind.i64 3,
              Value.slice (some { block := A, off := 8 }) 3 3, Value.int IntKind.i64 1,
              Value.slice (some { block := A, off := 11 }) 2 2, Value.int IntKind.i64 1,
              Value.slice (some { block := A, off := 13 }) 2 2, Value.int IntKind.i64 0]) (Value.int .u8 5)).run Tryz.prog w = .ok (.agg #[.slice (some ⟨A, 11, none⟩) 2 2, .int .i64 1]) w := by kernel_rfl
theorem at_kinds6 (A : Nat) (w : World) : (Instr.index 108 (Value.agg #[Value.slice none 0 0, Value.int IntKind.i64 0, Value.slice (some { block := A, off := 0 }) 2 2,
              Value.int IntKind.i64 1, Value.slice (some { block := A, off := 2 }) 2 2, Value.int IntKind.i64 1,
              Value.slice (some { block := A, off := 4 }) 4 4, Value.int IntKind.i64 3,
              Value.slice (some { block := A, off := 8 }) 3 3, Value.int IntKind.i64 1,
              Value.slice (some { block := A, off := 11 }) 2 2, Value.int IntKind.i64 1,
              Value.slice (some { block := A, off := 13 }) 2 2, Value.int IntKind.i64 0]) (Value.int .u8 6)).run Tryz.prog w = .ok (.agg #[.slice (some ⟨A, 13, none⟩) 2 2, .int .i64 0]) w := by kernel_rfl
theorem at_l (A o n : Nat) (c : Int) (w : World) : (Instr.field 107 (.agg #[.slice (some ⟨A, o, none⟩) n n, .int .i64 c]) 0).run Tryz.prog w = .ok (.slice (some ⟨A, o, none⟩) n n) w := by kernel_rfl
theorem askSl {w : World} {lo hi A : Nat} (h : SlA w lo hi .u8 (some ⟨A, 0, none⟩) askL) (o n : Nat) (hn : o + n ≤ 15) : SlA w lo hi .u8 (some ⟨A, o, none⟩) ((askL.drop o).take n) := by
  refine ⟨h.1, .inr ?_⟩
  obtain ⟨b, o', e, h1, h2, hc⟩ := h.2.resolve_left (by decide)
  cases e
  refine ⟨A, o, rfl, h1, h2, fun i hi => ?_⟩
  have hi' : i < n := by simp at hi; omega
  have := hc (o + i) (by simp [askL]; omega)
  rw [Nat.zero_add] at this
  rw [this]
  simp
set_option maxRecDepth 100000 in
set_option maxHeartbeats 4000000 in
theorem fits1 (x h v m t : Int) (w : World) :
    Calls Tryz.prog 20 #[.agg #[.int .u8 x, .int .u32 h, .int .u32 v, .int .u32 m, .int .i64 t], .int .u8 1] w fun e w' => e = .returned (.bool (decide (x ∈ fitL 1))) ∧ w.grownBy w' none := by
  have hat := at_kinds1
  have hal := at_l
  go_enter Tryz.func20, Tryz.ntmps20
  go_wp2_with fail
  go_region_with (first
    | (go_at_call 53; refine (kinds_ok _).mono ?_; rintro e wr ⟨A, rfl, hs, hg⟩; replace hs := Lib.hid hs; replace hg := Lib.hid hg; have cx : wr.cell? ⟨w.heap.size, 0, none⟩ = some (.int .u8 x) := cell_of ((hg.out.block _ (by simp) (by simp)).trans (World.alloc_heap_new _ _)) rfl; unfold kindsV)
    | (go_at_call 52; refine (contains8 _ _ _ (fitL 1) _ rfl (by decide) _ _ (askSl hs.out 0 2 (by decide))).mono ?_; rintro e wr2 ⟨rfl, hg2⟩; replace hg2 := Lib.hid hg2))
  all_goals go_wp2_with fail
  all_goals go_ret
  all_goals first
    | exact ⟨rfl, grown_trans (grown_trans (World.grownBy_alloc _ _ _) (grown_undrew hg.out)) hg2.out⟩
    | exact ⟨rfl, grown_trans (grown_trans (World.grownBy_alloc _ _ _) (grown_undrew hg.out)) (grown_undrew hg2.out)⟩
set_option maxRecDepth 100000 in
set_option maxHeartbeats 4000000 in
theorem fits2 (x h v m t : Int) (w : World) :
    Calls Tryz.prog 20 #[.agg #[.int .u8 x, .int .u32 h, .int .u32 v, .int .u32 m, .int .i64 t], .int .u8 2] w fun e w' => e = .returned (.bool (decide (x ∈ fitL 2))) ∧ w.grownBy w' none := by
  have hat := at_kinds2
  have hal := at_l
  go_enter Tryz.func20, Tryz.ntmps20
  go_wp2_with fail
  go_region_with (first
    | (go_at_call 53; refine (kinds_ok _).mono ?_; rintro e wr ⟨A, rfl, hs, hg⟩; replace hs := Lib.hid hs; replace hg := Lib.hid hg; have cx : wr.cell? ⟨w.heap.size, 0, none⟩ = some (.int .u8 x) := cell_of ((hg.out.block _ (by simp) (by simp)).trans (World.alloc_heap_new _ _)) rfl; unfold kindsV)
    | (go_at_call 52; refine (contains8 _ _ _ (fitL 2) _ rfl (by decide) _ _ (askSl hs.out 2 2 (by decide))).mono ?_; rintro e wr2 ⟨rfl, hg2⟩; replace hg2 := Lib.hid hg2))
  all_goals go_wp2_with fail
  all_goals go_ret
  all_goals first
    | exact ⟨rfl, grown_trans (grown_trans (World.grownBy_alloc _ _ _) (grown_undrew hg.out)) hg2.out⟩
    | exact ⟨rfl, grown_trans (grown_trans (World.grownBy_alloc _ _ _) (grown_undrew hg.out)) (grown_undrew hg2.out)⟩
set_option maxRecDepth 100000 in
set_option maxHeartbeats 4000000 in
theorem fits3 (x h v m t : Int) (w : World) :
    Calls Tryz.prog 20 #[.agg #[.int .u8 x, .int .u32 h, .int .u32 v, .int .u32 m, .int .i64 t], .int .u8 3] w fun e w' => e = .returned (.bool (decide (x ∈ fitL 3))) ∧ w.grownBy w' none := by
  have hat := at_kinds3
  have hal := at_l
  go_enter Tryz.func20, Tryz.ntmps20
  go_wp2_with fail
  go_region_with (first
    | (go_at_call 53; refine (kinds_ok _).mono ?_; rintro e wr ⟨A, rfl, hs, hg⟩; replace hs := Lib.hid hs; replace hg := Lib.hid hg; have cx : wr.cell? ⟨w.heap.size, 0, none⟩ = some (.int .u8 x) := cell_of ((hg.out.block _ (by simp) (by simp)).trans (World.alloc_heap_new _ _)) rfl; unfold kindsV)
    | (go_at_call 52; refine (contains8 _ _ _ (fitL 3) _ rfl (by decide) _ _ (askSl hs.out 4 4 (by decide))).mono ?_; rintro e wr2 ⟨rfl, hg2⟩; replace hg2 := Lib.hid hg2))
  all_goals go_wp2_with fail
  all_goals go_ret
  all_goals first
    | exact ⟨rfl, grown_trans (grown_trans (World.grownBy_alloc _ _ _) (grown_undrew hg.out)) hg2.out⟩
    | exact ⟨rfl, grown_trans (grown_trans (World.grownBy_alloc _ _ _) (grown_undrew hg.out)) (grown_undrew hg2.out)⟩
set_option maxRecDepth 100000 in
set_option maxHeartbeats 4000000 in
theorem fits4 (x h v m t : Int) (w : World) :
    Calls Tryz.prog 20 #[.agg #[.int .u8 x, .int .u32 h, .int .u32 v, .int .u32 m, .int .i64 t], .int .u8 4] w fun e w' => e = .returned (.bool (decide (x ∈ fitL 4))) ∧ w.grownBy w' none := by
  have hat := at_kinds4
  have hal := at_l
  go_enter Tryz.func20, Tryz.ntmps20
  go_wp2_with fail
  go_region_with (first
    | (go_at_call 53; refine (kinds_ok _).mono ?_; rintro e wr ⟨A, rfl, hs, hg⟩; replace hs := Lib.hid hs; replace hg := Lib.hid hg; have cx : wr.cell? ⟨w.heap.size, 0, none⟩ = some (.int .u8 x) := cell_of ((hg.out.block _ (by simp) (by simp)).trans (World.alloc_heap_new _ _)) rfl; unfold kindsV)
    | (go_at_call 52; refine (contains8 _ _ _ (fitL 4) _ rfl (by decide) _ _ (askSl hs.out 8 3 (by decide))).mono ?_; rintro e wr2 ⟨rfl, hg2⟩; replace hg2 := Lib.hid hg2))
  all_goals go_wp2_with fail
  all_goals go_ret
  all_goals first
    | exact ⟨rfl, grown_trans (grown_trans (World.grownBy_alloc _ _ _) (grown_undrew hg.out)) hg2.out⟩
    | exact ⟨rfl, grown_trans (grown_trans (World.grownBy_alloc _ _ _) (grown_undrew hg.out)) (grown_undrew hg2.out)⟩
set_option maxRecDepth 100000 in
set_option maxHeartbeats 4000000 in
theorem fits5 (x h v m t : Int) (w : World) :
    Calls Tryz.prog 20 #[.agg #[.int .u8 x, .int .u32 h, .int .u32 v, .int .u32 m, .int .i64 t], .int .u8 5] w fun e w' => e = .returned (.bool (decide (x ∈ fitL 5))) ∧ w.grownBy w' none := by
  have hat := at_kinds5
  have hal := at_l
  go_enter Tryz.func20, Tryz.ntmps20
  go_wp2_with fail
  go_region_with (first
    | (go_at_call 53; refine (kinds_ok _).mono ?_; rintro e wr ⟨A, rfl, hs, hg⟩; replace hs := Lib.hid hs; replace hg := Lib.hid hg; have cx : wr.cell? ⟨w.heap.size, 0, none⟩ = some (.int .u8 x) := cell_of ((hg.out.block _ (by simp) (by simp)).trans (World.alloc_heap_new _ _)) rfl; unfold kindsV)
    | (go_at_call 52; refine (contains8 _ _ _ (fitL 5) _ rfl (by decide) _ _ (askSl hs.out 11 2 (by decide))).mono ?_; rintro e wr2 ⟨rfl, hg2⟩; replace hg2 := Lib.hid hg2))
  all_goals go_wp2_with fail
  all_goals go_ret
  all_goals first
    | exact ⟨rfl, grown_trans (grown_trans (World.grownBy_alloc _ _ _) (grown_undrew hg.out)) hg2.out⟩
    | exact ⟨rfl, grown_trans (grown_trans (World.grownBy_alloc _ _ _) (grown_undrew hg.out)) (grown_undrew hg2.out)⟩
set_option maxRecDepth 100000 in
set_option maxHeartbeats 4000000 in
theorem fits6 (x h v m t : Int) (w : World) :
    Calls Tryz.prog 20 #[.agg #[.int .u8 x, .int .u32 h, .int .u32 v, .int .u32 m, .int .i64 t], .int .u8 6] w fun e w' => e = .returned (.bool (decide (x ∈ fitL 6))) ∧ w.grownBy w' none := by
  have hat := at_kinds6
  have hal := at_l
  go_enter Tryz.func20, Tryz.ntmps20
  go_wp2_with fail
  go_region_with (first
    | (go_at_call 53; refine (kinds_ok _).mono ?_; rintro e wr ⟨A, rfl, hs, hg⟩; replace hs := Lib.hid hs; replace hg := Lib.hid hg; have cx : wr.cell? ⟨w.heap.size, 0, none⟩ = some (.int .u8 x) := cell_of ((hg.out.block _ (by simp) (by simp)).trans (World.alloc_heap_new _ _)) rfl; unfold kindsV)
    | (go_at_call 52; refine (contains8 _ _ _ (fitL 6) _ rfl (by decide) _ _ (askSl hs.out 13 2 (by decide))).mono ?_; rintro e wr2 ⟨rfl, hg2⟩; replace hg2 := Lib.hid hg2))
  all_goals go_wp2_with fail
  all_goals go_ret
  all_goals first
    | exact ⟨rfl, grown_trans (grown_trans (World.grownBy_alloc _ _ _) (grown_undrew hg.out)) hg2.out⟩
    | exact ⟨rfl, grown_trans (grown_trans (World.grownBy_alloc _ _ _) (grown_undrew hg.out)) (grown_undrew hg2.out)⟩
theorem fits_ok (x h v m t : Int) (k : Nat) (hk : 1 ≤ k ∧ k ≤ 6) (w : World) :
    Calls Tryz.prog 20 #[.agg #[.int .u8 x, .int .u32 h, .int .u32 v, .int .u32 m, .int .i64 t], .int .u8 k] w fun e w' => e = .returned (.bool (decide (x ∈ fitL k))) ∧ w.grownBy w' none := by
  rcases (by omega : k = 1 ∨ k = 2 ∨ k = 3 ∨ k = 4 ∨ k = 5 ∨ k = 6) with rfl | rfl | rfl | rfl | rfl | rfl
  · exact fits1 x h v m t w
  · exact fits2 x h v m t w
  · exact fits3 x h v m t w
  · exact fits4 x h v m t w
  · exact fits5 x h v m t w
  · exact fits6 x h v m t w
end Go.Proofs.YtneamjaglgnmkaaGreatDoor
