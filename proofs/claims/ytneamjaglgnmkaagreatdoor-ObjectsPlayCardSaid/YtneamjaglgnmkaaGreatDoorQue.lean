/- Package queues. -/
import Derived.Test.YtneamjaglgnmkaaGreatDoorRows
import Derived.Test.YtneamjaglgnmkaaGreatDoorOwn
namespace Go.Proofs.YtneamjaglgnmkaaGreatDoor
open Go.RowKit Go.Shelf Tk
set_option linter.unusedVariables false
set_option linter.unusedSimpArgs false

theorem infoWord : (Tryz.prog.info? 23).map (fun i => (i.zero, i.size, i.bytes)) = some (some (.int .u32 0), 1, 4) := by kernel_rfl
/-- A queue's cells: 64 places, the first one, how many, how many there may be. -/
def qv (c : Nat → Int) (f n m : Nat) (i : Nat) : Value :=
  if i < 64 then .int .u32 (c i) else if i = 64 then .int .i64 f else if i = 65 then .int .i64 n else .int .i64 m
theorem qv_lo {c : Nat → Int} {f n m i : Nat} (h : i < 64) : qv c f n m i = .int .u32 (c i) := by simp [qv, h]
theorem qv_64 (c : Nat → Int) (f n m : Nat) : qv c f n m 64 = .int .i64 f := by simp [qv]
theorem qv_65 (c : Nat → Int) (f n m : Nat) : qv c f n m 65 = .int .i64 n := by simp [qv]
theorem qv_66 (c : Nat → Int) (f n m : Nat) : qv c f n m 66 = .int .i64 m := by simp [qv]
/-- A queue's messages. -/
structure Que (w : World) (B m : Nat) (ms : List Int) (f : Nat) (c : Nat → Int) : Prop where
  arr : Arr w B 67 (qv c f ms.length m)
  fl : f < 64
  le : ms.length ≤ m
  m64 : m ≤ 64
  m1 : 1 ≤ m
  get : ∀ j, j < ms.length → c ((f + j) % 64) = gd ms j
theorem Que.kept {w w' : World} {B m : Nat} {ms : List Int} {f : Nat} {c : Nat → Int} {r : Option Nat} (h : Que w B m ms f c) (hg : w.grownBy w' r) (hr : r ≠ some B) : Que w' B m ms f c := ⟨h.arr.kept hg hr, h.fl, h.le, h.m64, h.m1, h.get⟩
theorem Que.keep {w w' : World} {B m : Nat} {ms : List Int} {f : Nat} {c : Nat → Int} (h : Que w B m ms f c) (hg : w.grownBy w' none) : Que w' B m ms f c := h.kept hg (by simp)
theorem Que.cells {w : World} {B m : Nat} {ms : List Int} {f : Nat} {c : Nat → Int} (h : Que w B m ms f c) :
    w.cell? ⟨B, 64, none⟩ = some (.int .i64 f) ∧ w.cell? ⟨B, 65, none⟩ = some (.int .i64 ms.length) ∧ w.cell? ⟨B, 66, none⟩ = some (.int .i64 m) := by
  refine ⟨?_, ?_, ?_⟩
  · rw [h.arr.cell (by decide), qv_64]
  · rw [h.arr.cell (by decide), qv_65]
  · rw [h.arr.cell (by decide), qv_66]
/-- The cells of a queue as they are made. -/
def queZ : Array Value := ((List.range 67).map (qv (fun _ => 0) 0 0 0)).toArray
theorem queZ_size : queZ.size = 67 := by simp [queZ]
theorem zeroQue (w : World) : (zeroValue 102).run Tryz.prog w = .ok (.agg queZ) w := by kernel_rfl

set_option maxRecDepth 100000 in
set_option maxHeartbeats 1000000 in
theorem new_ok (m : Nat) (h1 : 1 ≤ m) (h2 : m ≤ 64) (w : World) :
    Calls Tryz.prog 16 #[.int .i64 m] w fun e w' => e = .returned (.tuple #[.pointer (some ⟨w.heap.size, 0, none⟩), .int .i64 0]) ∧ Que w' w.heap.size m [] 0 (fun _ => 0) ∧ w.grownBy w' none ∧ w'.heap.size = w.heap.size + 1 := by
  have hz := zeroQue
  have hs := queZ_size
  go_enter Tryz.func16, Tryz.ntmps16
  go_wp2
  go_ret2
  refine ⟨rfl, ⟨Arr.new _ _ _ _ _ (by simp [hs]) (fun i hi => ?_), by decide, Nat.zero_le _, h2, h1, fun j hj => absurd hj (Nat.not_lt_zero _)⟩, World.grownBy_alloc _ _ _, by simp⟩
  by_cases e : i = 66
  · subst e; simp [hs, qv]
  · rw [Array.getElem?_setIfInBounds_ne (fun h => e h.symm)]
    have e1 : qv (fun _ => 0) 0 0 m i = qv (fun _ => 0) 0 0 0 i := by
      rcases (by omega : i < 64 ∨ i = 64 ∨ i = 65) with h | rfl | rfl
      · rw [qv_lo h, qv_lo h]
      · rfl
      · rfl
    simp [queZ, hi, e1]
theorem new_bad (m : Int) (h : m < 1 ∨ 64 < m) (w : World) :
    Calls Tryz.prog 16 #[.int .i64 m] w fun e w' => e = .returned (.tuple #[.pointer none, .int .i64 1]) ∧ w = w' := by
  by_cases h1 : m < 1
  · go_enter Tryz.func16, Tryz.ntmps16
    go_wp2
    go_ret2
    exact ⟨rfl, rfl⟩
  · have h2 : 64 < m := by omega
    go_enter Tryz.func16, Tryz.ntmps16
    go_wp2
    go_ret2
    exact ⟨rfl, rfl⟩
theorem there_nil (w : World) : Calls Tryz.prog 119 #[.pointer none] w fun e w' => e = .returned (.bool false) ∧ w = w' := by
  go_enter Tryz.func119, Tryz.ntmps119
  go_wp2
  go_ret
  exact ⟨rfl, rfl⟩
theorem there_ok (B m : Nat) (w : World) (hc : w.cell? ⟨B, 66, none⟩ = some (.int .i64 m)) : Calls Tryz.prog 119 #[.pointer (some ⟨B, 0, none⟩)] w fun e w' => e = .returned (.bool (decide (0 < m))) ∧ w = w' := by
  by_cases h : 0 < m
  · go_enter Tryz.func119, Tryz.ntmps119
    go_wp2
    go_ret
    exact ⟨by simp; omega, rfl⟩
  · obtain rfl : m = 0 := by omega
    go_enter Tryz.func119, Tryz.ntmps119
    go_wp2
    go_ret
    exact ⟨by simp, rfl⟩
theorem at_any (B f k : Nat) (i : Int) (hi : -1 ≤ i ∧ i ≤ 64) (hf : f < 64) (hk : ((f : Int) + i + 64) % 64 = k) (w : World) (hc : w.cell? ⟨B, 64, none⟩ = some (.int .i64 f)) :
    Calls Tryz.prog 57 #[.pointer (some ⟨B, 0, none⟩), .int .i64 i] w fun e w' => e = .returned (.pointer (some ⟨B, k, none⟩)) ∧ ∃ n, w.drewN n = w' := by
  obtain ⟨hi1, hi2⟩ := hi
  have hk2 : k < 64 := by omega
  go_enter Tryz.func57, Tryz.ntmps57
  go_wp2
  go_quiet (fail)
  go_wp2
  go_ret
  exact ⟨rfl, _, rfl⟩
theorem room_nil (w : World) : Calls Tryz.prog 126 #[.pointer none] w fun e w' => e = .returned (.int .i64 2) ∧ w = w' := by
  go_enter Tryz.func126, Tryz.ntmps126
  go_wp2_with fail
  refine (there_nil _).mono ?_; rintro e w' ⟨rfl, rfl⟩
  go_wp2_with fail
  go_ret
  exact ⟨rfl, rfl⟩
theorem room_zero (B : Nat) (w : World) (hc : w.cell? ⟨B, 66, none⟩ = some (.int .i64 0)) : Calls Tryz.prog 126 #[.pointer (some ⟨B, 0, none⟩)] w fun e w' => e = .returned (.int .i64 2) ∧ w = w' := by
  go_enter Tryz.func126, Tryz.ntmps126
  go_wp2_with fail
  refine (there_ok B 0 _ hc).mono ?_; rintro e w' ⟨rfl, rfl⟩
  go_wp2_with fail
  go_ret
  exact ⟨rfl, rfl⟩
/-- Is there room? -/
theorem room_ok {B m : Nat} {ms : List Int} {f : Nat} {c : Nat → Int} (w : World) (h : Que w B m ms f c) :
    Calls Tryz.prog 126 #[.pointer (some ⟨B, 0, none⟩)] w fun e w' => e = .returned (.int .i64 (if ms.length < m then 0 else 10)) ∧ ∃ n, w.drewN n = w' := by
  obtain ⟨c0, c1, c2⟩ := h.cells
  have hm0 : 0 < m := h.m1
  have hle := h.le
  have hth := there_ok B m w c2
  rw [decide_eq_true hm0] at hth
  have hth := Lib.hid hth
  by_cases hlt : ms.length < m
  · have he : ((ms.length : Int) == (m : Int)) = false := by rw [beq_eq_false_iff_ne]; omega
    rw [if_pos hlt]
    clear hlt
    go_enter Tryz.func126, Tryz.ntmps126
    go_wp2_with fail
    refine hth.out.mono ?_; rintro e w' ⟨rfl, rfl⟩
    go_wp2_with fail
    go_quiet (fail)
    go_wp2_with fail
    go_ret
    exact ⟨rfl, _, rfl⟩
  · have he : ((ms.length : Int) == (m : Int)) = true := by rw [beq_iff_eq]; omega
    rw [if_neg hlt]
    clear hlt
    go_enter Tryz.func126, Tryz.ntmps126
    go_wp2_with fail
    refine hth.out.mono ?_; rintro e w' ⟨rfl, rfl⟩
    go_wp2_with fail
    go_quiet (fail)
    go_wp2_with fail
    go_ret
    exact ⟨rfl, _, rfl⟩
/-- A message more, at the end. -/
theorem Que.put {w : World} {B m : Nat} {ms : List Int} {f : Nat} {c : Nat → Int} (h : Que w B m ms f c) (hlt : ms.length < m) (v : Int) {w' : World} (i : Nat) (hi : i = (f + ms.length) % 64)
    (hA : Arr w' B 67 (fun j => if j = 65 then .int .i64 ((ms.length : Int) + 1) else if j = i then .int .u32 v else qv c f ms.length m j)) : Que w' B m (ms ++ [v]) f (fun j => if j = i then v else c j) := by
  have hi2 : i < 64 := by rw [hi]; exact Nat.mod_lt _ (by decide)
  refine ⟨hA.congr fun j hj => ?_, h.fl, by simp; omega, h.m64, h.m1, fun j hj => ?_⟩
  · by_cases e1 : j = 65
    · subst e1; rw [if_pos rfl, qv_65]; simp
    · rw [if_neg e1]
      by_cases e2 : j = i
      · subst e2; rw [if_pos rfl, qv_lo hi2]; simp
      · rw [if_neg e2]
        unfold qv
        simp only [e1, e2, if_false]
  · have h64 := h.m64
    simp only [List.length_append, List.length_singleton] at hj
    by_cases e : j = ms.length
    · subst e; rw [if_pos hi.symm]; simp [gd]
    · have : ¬ (f + j) % 64 = i := by have := h.fl; omega
      rw [if_neg this, h.get j (by omega)]
      unfold gd; rw [List.getElem?_append_left (by omega)]
set_option maxRecDepth 100000 in
set_option maxHeartbeats 4000000 in
theorem put_ok {B m : Nat} {ms : List Int} {f : Nat} {c : Nat → Int} (v : Int) (w : World) (h : Que w B m ms f c) (hlt : ms.length < m) :
    Calls Tryz.prog 122 #[.pointer (some ⟨B, 0, none⟩), .int .u32 v] w fun e w' => e = .returned (.int .i64 0) ∧ (∃ c', Que w' B m (ms ++ [v]) f c') ∧ w.grownBy w' (some B) := by
  obtain ⟨c0, c1, c2⟩ := h.cells
  obtain ⟨i, hi, hi2⟩ : ∃ i : Nat, ((f : Int) + (ms.length : Int) + 64) % 64 = i ∧ i = (f + ms.length) % 64 := ⟨(f + ms.length) % 64, by omega, rfl⟩
  have hi3 : i < 64 := by omega
  have hA := h.arr
  have hci := hA.cell (i := i) (by omega)
  rw [qv_lo hi3] at hci
  have hfi := hA.frozen i
  have hf65 := hA.frozen 65
  have hlen : -1 ≤ (ms.length : Int) ∧ (ms.length : Int) ≤ 64 := by have := h.m64; have := h.le; omega
  have hfl := h.fl
  have hrm := room_ok w h
  rw [if_pos hlt] at hrm
  have hrm := Lib.hid hrm
  have hlen2 : ms.length ≤ 64 := by omega
  have hlen := Lib.hid hlen
  replace hi2 := Lib.hid hi2
  go_enter Tryz.func122, Tryz.ntmps122
  go_wp2_with fail
  refine hrm.out.mono ?_; rintro e w' ⟨rfl, n0, rfl⟩
  have h1 : Arr (w.drewN n0) B 67 (qv c f ms.length m) := Drawn.arr ⟨n0, rfl⟩ hA
  have hgW : w.grownBy (w.drewN n0) none := grown_drewN (grown_refl _ _) _
  generalize w.drewN n0 = W at *
  clear c0 c1 c2 hci hfi hf65 hA
  have c0 := h1.cell (i := 64) (by decide)
  have c1 := h1.cell (i := 65) (by decide)
  rw [qv_64] at c0
  rw [qv_65] at c1
  have hci := h1.cell (i := i) (by omega)
  rw [qv_lo hi3] at hci
  have hfi := h1.frozen i
  have hf65 := h1.frozen 65
  have c0d : W.drew.cell? ⟨B, 64, none⟩ = some (.int .i64 f) := c0
  go_wp2_with fail
  go_region_law (go_simp; go_at_call 57; refine (at_any B f i _ hlen.out hfl hi _ c0d).mono ?_; rintro e w' ⟨rfl, nq, rfl⟩)
  have hA2 := (Drawn.arr ⟨1 + nq, rfl⟩ h1).set (k := i) (by omega) (.int .u32 v)
  have hg2 := grown_trans (grown_weaken (some B) (grown_drewN hgW (1 + nq))) (grownBy_setCell (W.drewN (1 + nq)) B i (.int .u32 v))
  obtain ⟨W2, hW2⟩ : ∃ W2, (W.drewN (1 + nq)).setCell ⟨B, i, none⟩ (.int .u32 v) = W2 := ⟨_, rfl⟩
  rw [hW2] at hA2 hg2
  change Exit.then _ _ _ _ ((W.drewN (1 + nq)).setCell ⟨B, i, none⟩ (.int .u32 v))
  rw [hW2]
  clear hW2 c0 c1 hci hfi hf65 c0d h1 hgW
  have c1 := hA2.cell (i := 65) (by decide)
  rw [if_neg (by omega), qv_65] at c1
  have hf65 := hA2.frozen 65
  go_wp2_with fail
  go_ret
  have hA3 := hA2.set (k := 65) (by decide) (.int .i64 ((ms.length : Int) + 1))
  exact ⟨rfl, ⟨_, h.put hlt v i hi2.out hA3⟩, grown_trans hg2 (grownBy_setCell _ _ _ _)⟩
/-- The queue refuses. -/
theorem put_no (p : Value) (v : Value) (e : Nat) (he : e ≠ 0) (w : World) (hr : Calls Tryz.prog 126 #[p] w fun x w' => x = .returned (.int .i64 e) ∧ w.grownBy w' none) :
    Calls Tryz.prog 122 #[p, v] w fun x w' => x = .returned (.int .i64 e) ∧ w.grownBy w' none := by
  have he' : ((e : Int) == 0) = false := by rw [beq_eq_false_iff_ne]; omega
  go_enter Tryz.func122, Tryz.ntmps122
  go_wp2_with fail
  refine hr.mono ?_; rintro x w' ⟨rfl, hg⟩
  clear hr
  go_wp2_with fail
  go_ret
  exact ⟨rfl, hg⟩
theorem push_no (p : Value) (v : Value) (e : Nat) (he : e ≠ 0) (w : World) (hr : Calls Tryz.prog 126 #[p] w fun x w' => x = .returned (.int .i64 e) ∧ w.grownBy w' none) :
    Calls Tryz.prog 123 #[p, v] w fun x w' => x = .returned (.int .i64 e) ∧ w.grownBy w' none := by
  have he' : ((e : Int) == 0) = false := by rw [beq_eq_false_iff_ne]; omega
  go_enter Tryz.func123, Tryz.ntmps123
  go_wp2_with fail
  refine hr.mono ?_; rintro x w' ⟨rfl, hg⟩
  clear hr
  go_wp2_with fail
  go_ret
  exact ⟨rfl, hg⟩
theorem room_full {B m : Nat} {ms : List Int} {f : Nat} {c : Nat → Int} (w : World) (h : Que w B m ms f c) (hm : ms.length = m) :
    Calls Tryz.prog 126 #[.pointer (some ⟨B, 0, none⟩)] w fun x w' => x = .returned (.int .i64 (10 : Nat)) ∧ w.grownBy w' none := by
  have := room_ok w h
  rw [if_neg (by omega)] at this
  refine this.mono ?_
  rintro e w' ⟨rfl, n, rfl⟩
  exact ⟨rfl, grown_drewN (grown_refl _ _) _⟩

/-- A message more, ahead. -/
theorem Que.push {w : World} {B m : Nat} {ms : List Int} {f : Nat} {c : Nat → Int} (h : Que w B m ms f c) (hlt : ms.length < m) (v : Int) {w' : World} (i : Nat) (hi : i = (f + 63) % 64)
    (hA : Arr w' B 67 (fun j => if j = 65 then .int .i64 ((ms.length : Int) + 1) else if j = 64 then .int .i64 i else if j = i then .int .u32 v else qv c f ms.length m j)) : Que w' B m (v :: ms) i (fun j => if j = i then v else c j) := by
  have hi2 : i < 64 := by rw [hi]; exact Nat.mod_lt _ (by decide)
  refine ⟨hA.congr fun j hj => ?_, hi2, by simp; omega, h.m64, h.m1, fun j hj => ?_⟩
  · by_cases e1 : j = 65
    · subst e1; rw [if_pos rfl, qv_65]; simp
    · rw [if_neg e1]
      by_cases e3 : j = 64
      · subst e3; rw [if_pos rfl, qv_64]
      · rw [if_neg e3]
        by_cases e2 : j = i
        · subst e2; rw [if_pos rfl, qv_lo hi2]; simp
        · rw [if_neg e2]
          unfold qv
          simp only [e1, e2, e3, if_false]
  · have h64 := h.m64
    have hfl := h.fl
    simp only [List.length_cons] at hj
    by_cases e : j = 0
    · subst e
      have : (i + 0) % 64 = i := by omega
      rw [this, if_pos rfl]; rfl
    · obtain ⟨j, rfl⟩ : ∃ j', j = j' + 1 := ⟨j - 1, by omega⟩
      have : ¬ (i + (j + 1)) % 64 = i := by omega
      have e2 : (i + (j + 1)) % 64 = (f + j) % 64 := by omega
      rw [if_neg this, e2, h.get j (by omega)]
      rfl
set_option maxRecDepth 100000 in
set_option maxHeartbeats 4000000 in
theorem push_ok {B m : Nat} {ms : List Int} {f : Nat} {c : Nat → Int} (v : Int) (w : World) (h : Que w B m ms f c) (hlt : ms.length < m) :
    Calls Tryz.prog 123 #[.pointer (some ⟨B, 0, none⟩), .int .u32 v] w fun e w' => e = .returned (.int .i64 0) ∧ (∃ f' c', Que w' B m (v :: ms) f' c') ∧ w.grownBy w' (some B) := by
  have hfl := h.fl
  obtain ⟨i, hi, hi0, hi2⟩ : ∃ i : Nat, ((f : Int) + (-1) + 64) % 64 = i ∧ ((f : Int) + 64 - 1) % 64 = i ∧ i = (f + 63) % 64 := ⟨(f + 63) % 64, by omega, by omega, rfl⟩
  have hi3 : i < 64 := by omega
  have hA := h.arr
  have hlen2 : ms.length ≤ 64 := by have := h.m64; omega
  have hrm := room_ok w h
  rw [if_pos hlt] at hrm
  replace hrm := Lib.hid hrm
  replace hi2 := Lib.hid hi2
  go_enter Tryz.func123, Tryz.ntmps123
  go_wp2_with fail
  refine hrm.out.mono ?_; rintro e w' ⟨rfl, n0, rfl⟩
  have h1 : Arr (w.drewN n0) B 67 (qv c f ms.length m) := Drawn.arr ⟨n0, rfl⟩ hA
  have hgW : w.grownBy (w.drewN n0) none := grown_drewN (grown_refl _ _) _
  generalize w.drewN n0 = W at *
  clear hA
  have c0 := h1.cell (i := 64) (by decide)
  rw [qv_64] at c0
  go_wp2_with fail
  refine (at_any B f i (-1) (by decide) hfl hi _ c0).mono ?_; rintro e w' ⟨rfl, nq, rfl⟩
  have h2 : Arr (W.drewN nq) B 67 (qv c f ms.length m) := Drawn.arr ⟨nq, rfl⟩ h1
  have hg2 : w.grownBy (W.drewN nq) none := grown_drewN hgW _
  generalize W.drewN nq = W2 at *
  clear h1 hgW c0
  have c0 := h2.cell (i := 64) (by decide)
  have c1 := h2.cell (i := 65) (by decide)
  have ci := h2.cell (i := i) (by omega)
  rw [qv_64] at c0
  rw [qv_65] at c1
  rw [qv_lo hi3] at ci
  have f0 := h2.frozen 64
  have f1 := h2.frozen 65
  have fi := h2.frozen i
  have n64 : i ≠ 64 := by omega
  have n65 : i ≠ 65 := by omega
  go_wp2_with fail
  go_ret
  have hA3 := ((h2.set (k := i) (by omega) (.int .u32 v)).set (k := 64) (by decide) (.int .i64 i)).set (k := 65) (by decide) (.int .i64 ((ms.length : Int) + 1))
  exact ⟨rfl, ⟨_, _, h.push hlt v i hi2.out hA3⟩, grown_trans (grown_trans (grown_trans (grown_weaken _ hg2) (grownBy_setCell _ _ _ _)) (grownBy_setCell _ _ _ _)) (grownBy_setCell _ _ _ _)⟩
end Go.Proofs.YtneamjaglgnmkaaGreatDoor
