/- Make, with its closures; Place, Drop, List. -/
import Derived.Test.YtabkkeeedlnmnaaDoorHan
namespace Go.Proofs.YtabkkeeedlnmnaaDoor
open Go.RowKit Go.Shelf Tk
set_option linter.unusedVariables false
set_option linter.unusedSimpArgs false

set_option maxHeartbeats 1000000 in
theorem make1_any (a : Nat) (x : Bool) (w : World) :
    Calls Tryd.prog 96 #[.agg #[.int .u32 a, .bool x]] w fun e w' => e = .returned (.bool (!x && decide (a < 16777215))) ∧ w.grownBy w' none := by
  cases x with
  | true =>
    go_enter Tryd.func96, Tryd.ntmps96
    go_wp2
    go_ret
    exact ⟨rfl, World.grownBy_alloc _ _ _⟩
  | false =>
    go_enter Tryd.func96, Tryd.ntmps96
    go_wp2
    go_ret
    exact ⟨by simp [Array.getD]; omega, World.grownBy_alloc _ _ _⟩

theorem take_v (t : Tab) (k : Nat) (hk : k < 256) (i : Nat) (hi : i < 513) :
    (if i = k * 2 + 1 then Value.bool true else if i = k * 2 then Value.int .u32 ((t.age k : Int) + 1) else t.v i) = (t.take k).v i := by
  by_cases e1 : i = k * 2 + 1
  · subst e1; rw [if_pos rfl, (t.take k).v_tk hk]; simp [Tab.take]
  · rw [if_neg e1]
    by_cases e2 : i = k * 2
    · subst e2; rw [if_pos rfl, (t.take k).v_age hk]; simp [Tab.take]
    · rw [if_neg e2]
      unfold Tab.v
      by_cases e3 : i = 512
      · simp [e3, Tab.take]
      · rw [if_neg e3, if_neg e3]
        by_cases e4 : i % 2 = 0
        · have : ¬ i / 2 = k := by omega
          simp [e4, Tab.take, this]
        · have : ¬ i / 2 = k := by omega
          simp [e4, Tab.take, this]

set_option maxRecDepth 100000 in
set_option maxHeartbeats 2000000 in
theorem make2_any (t : Tab) (b m k : Nat) (hk : k < 256) (ha : t.age k < 16777215) (hbm : b < m) (w : World) (v1 v2 : Value) (hA : Arr w b 513 t.v)
    (h0 : Boxed w m 42 (.pointer (some ⟨b, 0, none⟩))) (h1 : Boxed w (m + 1) 22 v1) (h2 : Boxed w (m + 2) 43 v2) :
    Calls Tryd.prog 97 #[.int .i64 k, .pointer (some ⟨m, 0, none⟩), .pointer (some ⟨m + 1, 0, none⟩), .pointer (some ⟨m + 2, 0, none⟩)] w fun e w' => e = .returned (.bool true) ∧
      Arr w' b 513 (t.take k).v ∧ Boxed w' (m + 1) 22 (.int .u32 ((t.take k).h k)) ∧ Boxed w' (m + 2) 43 (.int .i64 0) ∧ Fr (fun j => j = b ∨ j = m + 1 ∨ j = m + 2) w w' := by
  have hc := hA.cell (i := k * 2) (by omega)
  rw [t.v_age hk] at hc
  have hc0 := h0.cell
  have hf0 := hA.frozen (k * 2)
  have hf1 := hA.frozen (k * 2 + 1)
  have hc' := hA.cell (i := k * 2 + 1) (by omega)
  rw [t.v_tk hk] at hc'
  go_enter Tryd.func97, Tryd.ntmps97
  go_wp2
  go_region
  have hA2 := (((hA.set (k := k * 2) (by omega) (.int .u32 ((t.age k : Int) + 1))).set (k := k * 2 + 1) (by omega) (.bool true)).congr (take_v t k hk)).drew
  have hfr : Fr (fun j => j = b ∨ j = m + 1 ∨ j = m + 2) w _ := (((Fr.refl _ w).setCell ⟨b, k * 2, none⟩ (fun _ => .inl rfl) (.int .u32 ((t.age k : Int) + 1))).setCell ⟨b, k * 2 + 1, none⟩ (fun _ => .inl rfl) (.bool true)).drew
  obtain ⟨w2, hw2⟩ : ∃ w2, ((w.setCell ⟨b, k * 2, none⟩ (Value.int .u32 ((t.age k : Int) + 1))).setCell ⟨b, k * 2 + 1, none⟩ (Value.bool true)).drew = w2 := ⟨_, rfl⟩
  rw [hw2] at hA2 hfr ⊢
  have hS : ∀ i, i ≠ b → i < w.heap.size → w2.heap[i]? = w.heap[i]? := fun i hi hl => by
    rw [← hw2]
    exact (Below.heap_setCell _ _ _ i (by simpa using hi)).trans (Below.heap_setCell _ _ _ i (by simpa using hi))
  have g0 : Boxed w2 m _ _ := (hS m (by omega) h0.lt).trans h0
  have g1 : Boxed w2 (m + 1) _ _ := (hS (m + 1) (by omega) h1.lt).trans h1
  have g2 : Boxed w2 (m + 2) _ _ := (hS (m + 2) (by omega) h2.lt).trans h2
  clear hc hc0 hf0 hf1 hc' hw2 hS hA h0 h1 h2
  have hc0 := g0.cell
  have hc1 := g1.cell
  have hc2 := g2.cell
  have hf1 := g1.frozen
  have hf2 := g2.frozen
  go_wp2_with fail
  refine (handle_any (t.take k) b k hk (by simp [Tab.take]; omega) _ hA2).mono ?_; rintro e w' ⟨rfl, rfl⟩
  go_wp2_with fail
  go_ret
  refine ⟨rfl, ?_, ?_, ?_, ?_⟩
  · exact (hA2.kept (grownBy_setCell _ _ _ _) (by simp; omega)).kept (grownBy_setCell _ _ _ _) (by simp; omega)
  · exact (g1.set _).kept (grownBy_setCell' _ _ _) (by simp)
  · exact (g2.kept (grownBy_setCell' _ (m + 1) _) (by simp)).set _
  · exact (hfr.setCell ⟨m + 1, 0, none⟩ (fun _ => .inr (.inl rfl)) _).setCell ⟨m + 2, 0, none⟩ (fun _ => .inr (.inr rfl)) _

/-- The least place that may be given. -/
def Tab.least (t : Tab) : Option Nat := (List.range t.many).find? t.free
theorem least_none {t : Tab} (h : ∀ i, i < t.many → t.free i = false) : t.least = none := by
  unfold Tab.least; rw [List.find?_eq_none]; intro i hi; simp [h i (List.mem_range.1 hi)]
theorem least_some {t : Tab} {k : Nat} (hk : k < t.many) (h : ∀ i, i < k → t.free i = false) (hf : t.free k = true) : t.least = some k := by
  unfold Tab.least
  rw [List.find?_range_eq_some]
  exact ⟨hf, by simpa using hk, fun j hj => by simp [h j hj]⟩

/-- What Make's find leaves. -/
def Found (t : Tab) (b m : Nat) (v1 v2 : Value) (w' : World) : Prop :=
  match t.least with
  | none => Arr w' b 513 t.v ∧ Boxed w' (m + 1) 22 v1 ∧ Boxed w' (m + 2) 43 v2
  | some k => Arr w' b 513 (t.take k).v ∧ Boxed w' (m + 1) 22 (.int .u32 ((t.take k).h k)) ∧ Boxed w' (m + 2) 43 (.int .i64 0)
set_option maxRecDepth 100000 in
set_option maxHeartbeats 4000000 in
/-- find, as Make calls it. -/
theorem findMake_any (t : Tab) (ht : t.ok) (b m : Nat) (hbm : b < m) (w : World) (v1 v2 : Value) (hA : Arr w b 513 t.v)
    (h0 : Boxed w m 42 (.pointer (some ⟨b, 0, none⟩))) (h1 : Boxed w (m + 1) 22 v1) (h2 : Boxed w (m + 2) 43 v2) :
    Calls Tryd.prog 95 #[.pointer (some ⟨b, 0, none⟩), .func (.func 96) #[] #[], .func (.func 97) #[] #[.pointer (some ⟨m, 0, none⟩), .pointer (some ⟨m + 1, 0, none⟩), .pointer (some ⟨m + 2, 0, none⟩)]] w fun e w' => e = .returned (.tuple #[]) ∧
      Fr (fun j => j = b ∨ j = m + 1 ∨ j = m + 2) w w' ∧ Found t b m v1 v2 w' := by
  obtain ⟨hag, hm1, hm2⟩ := ht
  have hag' := Lib.hid hag
  clear hag
  have hcm := hA.cell (i := 512) (by omega)
  rw [t.v_many] at hcm
  go_enter Tryd.func95, Tryd.ntmps95
  go_wp2_with fail
  go_loopw [11] (fun i wr => ∃ k : Nat, k ≤ t.many ∧ i = .int .i64 k ∧ Hid (∀ j, j < k → t.free j = false) ∧ w.grownBy wr none) (fun i _ => t.many - (intOf i).toNat)
  case atStart => exact ⟨0, Nat.zero_le _, rfl, fun j hj => absurd hj (Nat.not_lt_zero _), grown_refl _ _⟩
  case round =>
    obtain ⟨k, hk, rfl, hno, hg⟩ := hrel
    have hA1 := hA.kept hg (by simp)
    have g0 := h0.kept hg (by simp)
    have g1 := h1.kept hg (by simp)
    have g2 := h2.kept hg (by simp)
    by_cases hlt : k < t.many
    · have hc := hA1.cell (i := k * 2) (by omega)
      have hc' := hA1.cell (i := k * 2 + 1) (by omega)
      rw [t.v_age (by omega)] at hc
      rw [t.v_tk (by omega)] at hc'
      obtain ⟨q, hq⟩ : ∃ q, t.free k = q := ⟨_, rfl⟩
      have hq1 : Hid ((!t.tk k && decide (t.age k < 16777215)) = q) := hq
      have hq' := Lib.hid hq
      clear hq
      go_wp2_with fail
      refine (make1_any _ _ _).mono ?_; rw [hq1.out]; rintro e wa ⟨rfl, hga⟩
      have hg2 := grown_trans hg hga
      have hA2 := hA1.kept hga (by simp)
      have k0 := g0.kept hga (by simp)
      have k1 := g1.kept hga (by simp)
      have k2 := g2.kept hga (by simp)
      clear hA1 g0 g1 g2 hc hc' hga hq1
      cases q with
      | false =>
        have hno' : Hid (∀ j, j < k + 1 → t.free j = false) := fun j hj => by
          by_cases e : j = k
          · subst e; exact hq'.out
          · exact hno.out j (by omega)
        go_wp2_with fail
        go_roundw
        case rel => exact ⟨k + 1, by omega, by go_num, hno', hg2⟩
        case measure => simp [intOf]; omega
      | true =>
        have hl := Lib.hid (least_some hlt hno.out hq'.out)
        have hage : t.age k < 16777215 := by
          have := hq'.out; unfold Tab.free at this; simp at this; omega
        go_wp2_with fail
        refine (make2_any t b m k (by omega) hage hbm _ _ _ hA2 k0 k1 k2).mono ?_; rintro e wb ⟨rfl, hA3, l1, l2, hf⟩
        go_wp2_with fail
        refine bodyPost_ret (results_none rfl _ _ _) rfl ?_
        refine ⟨rfl, (Fr.of_grown hg2 (by simp)).trans hf, ?_⟩
        unfold Found; rw [hl.out]; exact ⟨hA3, l1, l2⟩
    · have hl := Lib.hid (least_none (t := t) (fun i hi => hno.out i (by omega)))
      go_wp2_with fail
      go_end0
      refine ⟨rfl, Fr.of_grown hg (by simp), ?_⟩
      unfold Found; rw [hl.out]; exact ⟨hA1, g1, g2⟩

/-- What Make answers, and what it leaves. -/
def Tab.make (t : Tab) : Tab × Nat × Nat :=
  match t.least with
  | none => (t, 0, 3)
  | some k => (t.take k, (t.take k).h k, 0)
set_option maxRecDepth 100000 in
set_option maxHeartbeats 4000000 in
theorem make_any (t : Tab) (ht : t.ok) (b : Nat) (w : World) (hA : Arr w b 513 t.v) :
    Calls Tryd.prog 17 #[.pointer (some ⟨b, 0, none⟩)] w fun e w' => e = .returned (.tuple #[.int .u32 t.make.2.1, .int .i64 t.make.2.2]) ∧ Arr w' b 513 t.make.1.v ∧ w.grownBy w' (some b) := by
  have hm0 : ((t.many : Int) == 0) = false := by have := ht.2.1; simp; omega
  have hcm := fun o1 o2 o3 => (((hA.alloc o1).alloc o2).alloc o3).cell (i := 512) (by omega)
  simp only [t.v_many] at hcm
  have hbl := hA.lt
  go_enter Tryd.func17, Tryd.ntmps17
  go_wp2_with fail
  obtain ⟨W3, hW3⟩ : ∃ W3, ((w.alloc (.cells #[.pointer (some ⟨b, 0, none⟩)] 42)).alloc (.cells #[.int .u32 0] 22)).alloc (.cells #[.int .i64 3] 43) = W3 := ⟨_, rfl⟩
  have hA3 : Arr W3 b 513 t.v := by rw [← hW3]; exact ((hA.alloc _).alloc _).alloc _
  have g0 : Boxed W3 w.heap.size 42 (.pointer (some ⟨b, 0, none⟩)) := by rw [← hW3]; exact ((Boxed.new w _ _).alloc _).alloc _
  have g1 : Boxed W3 (w.heap.size + 1) 22 (.int .u32 0) := by
    rw [← hW3]; have := (Boxed.new (w.alloc (.cells #[.pointer (some ⟨b, 0, none⟩)] 42)) 22 (.int .u32 0)).alloc (.cells #[.int .i64 3] 43); rwa [World.size_alloc] at this
  have g2 : Boxed W3 (w.heap.size + 2) 43 (.int .i64 3) := by
    rw [← hW3]; have := Boxed.new ((w.alloc (.cells #[.pointer (some ⟨b, 0, none⟩)] 42)).alloc (.cells #[.int .u32 0] 22)) 43 (.int .i64 3); rwa [World.size_alloc, World.size_alloc] at this
  have hf3 : Fr (fun j => j = b ∨ j = w.heap.size + 1 ∨ j = w.heap.size + 2) w W3 := by rw [← hW3]; exact (((Fr.refl _ w).alloc _).alloc _).alloc _
  rw [hW3]
  refine (findMake_any t ht b w.heap.size hbl W3 _ _ hA3 g0 g1 g2).mono ?_; rintro e W4 ⟨rfl, hf4, hF⟩
  have hf := hf3.trans (hf4.mono (S' := fun j => j = b ∨ j = w.heap.size + 1 ∨ j = w.heap.size + 2) fun _ _ h => h)
  have hbw : ∀ k, k < w.heap.size → (k = b ∨ k = w.heap.size + 1 ∨ k = w.heap.size + 2) → some b = some k := fun k hk h => by
    rcases h with rfl | h | h <;> first | rfl | omega
  have hb1 : b ≠ w.heap.size + 1 := by omega
  have hb2 : b ≠ w.heap.size + 2 := by omega
  have hS1 : w.heap.size + 1 < W4.heap.size := Nat.lt_of_lt_of_le g1.lt hf4.size
  have hS2 : w.heap.size + 2 < W4.heap.size := Nat.lt_of_lt_of_le g2.lt hf4.size
  have hF' : Arr W4 b 513 t.make.1.v ∧ Boxed W4 (w.heap.size + 1) 22 (.int .u32 t.make.2.1) ∧ Boxed W4 (w.heap.size + 2) 43 (.int .i64 t.make.2.2) := by
    unfold Found at hF
    unfold Tab.make
    cases hl : t.least with
    | none => rw [hl] at hF; exact hF
    | some k => rw [hl] at hF; exact hF
  clear hcm hW3 hA3 g0 g1 g2 hf3 hf4 hA hF
  obtain ⟨hA4, k1, k2⟩ := hF'
  obtain ⟨⟨t', h', e'⟩, hM⟩ : ∃ p, p = t.make := ⟨_, rfl⟩
  rw [← hM] at hA4 k1 k2
  have hM' := Lib.hid hM
  clear hM
  have c1 := k1.cell
  have c2 := k2.cell
  have f1 := k1.frozen
  have f2 := k2.frozen
  go_wp2_with fail
  go_region
  have hfin : Fr (fun j => j = b ∨ j = w.heap.size + 1 ∨ j = w.heap.size + 2) w _ := ((hf.setCell ⟨w.heap.size + 1, 0, none⟩ (fun _ => .inr (.inl rfl)) (.int .u32 h')).setCell ⟨w.heap.size + 2, 0, none⟩ (fun _ => .inr (.inr rfl)) (.int .i64 e')).drew
  have hAf := ((hA4.kept (grownBy_setCell' W4 (w.heap.size + 1) (.int .u32 h')) (by simp; omega)).kept (grownBy_setCell' _ (w.heap.size + 2) (.int .i64 e')) (by simp; omega)).drew
  have k1f := ((k1.set (.int .u32 h')).kept (grownBy_setCell' _ (w.heap.size + 2) (.int .i64 e')) (by simp)).drew
  have k2f := ((k2.kept (grownBy_setCell' W4 (w.heap.size + 1) (.int .u32 h')) (by simp)).set (.int .i64 e')).drew
  obtain ⟨W5, hW5⟩ : ∃ W5, ((W4.setCell ⟨w.heap.size + 1, 0, none⟩ (.int .u32 h')).setCell ⟨w.heap.size + 2, 0, none⟩ (.int .i64 e')).drew = W5 := ⟨_, rfl⟩
  change Exit.then _ _ _ _ (((W4.setCell ⟨w.heap.size + 1, 0, none⟩ (.int .u32 h')).setCell ⟨w.heap.size + 2, 0, none⟩ (.int .i64 e')).drew)
  rw [hW5] at hfin hAf k1f k2f ⊢
  clear hW5 hA4 k1 k2 c1 c2 f1 f2 hf
  have c1 := k1f.cell
  have c2 := k2f.cell
  go_wp2_with fail
  refine bodyPost_ret (v := .tuple #[.int .u32 h', .int .i64 e']) ?_ rfl ?_
  · simp [results, Tryd.results17, go_sem, c1, c2]
  · rw [← hM'.out]; exact ⟨rfl, hAf, hfin.grown hbw⟩
theorem make_nil (w : World) : Calls Tryd.prog 17 #[.pointer none] w fun e w' => e = .returned (.tuple #[.int .u32 0, .int .i64 2]) ∧ w.grownBy w' none := by
  go_enter Tryd.func17, Tryd.ntmps17
  go_wp2_with fail
  refine bodyPost_ret (v := .tuple #[.int .u32 0, .int .i64 2]) ?_ rfl ?_
  · simp [results, Tryd.results17, go_sem]
  · exact ⟨rfl, grown_alloc (grown_alloc (World.grownBy_alloc _ _ _) _) _⟩
theorem make_zero (b : Nat) (w : World) (hA : Arr w b 513 (tab0 0).v) : Calls Tryd.prog 17 #[.pointer (some ⟨b, 0, none⟩)] w fun e w' => e = .returned (.tuple #[.int .u32 0, .int .i64 2]) ∧ w.grownBy w' none := by
  have hcm := fun o1 o2 o3 => (((hA.alloc o1).alloc o2).alloc o3).cell (i := 512) (by omega)
  simp only [Tab.v_many] at hcm
  have hz : (((tab0 0).many : Int) == 0) = true := rfl
  go_enter Tryd.func17, Tryd.ntmps17
  go_wp2_with fail
  refine bodyPost_ret (v := .tuple #[.int .u32 0, .int .i64 2]) ?_ rfl ?_
  · simp [results, Tryd.results17, go_sem]
  · exact ⟨rfl, grown_alloc (grown_alloc (World.grownBy_alloc _ _ _) _) _⟩

end Go.Proofs.YtabkkeeedlnmnaaDoor
