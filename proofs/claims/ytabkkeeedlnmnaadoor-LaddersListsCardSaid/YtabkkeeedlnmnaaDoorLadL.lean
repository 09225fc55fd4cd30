/- ladders.List: a range over a function; the ranks of a ladder in new memory, falling. -/
import Derived.Test.YtabkkeeedlnmnaaDoorLad
namespace Go.Proofs.YtabkkeeedlnmnaaDoor
open Go.RowKit Go.Shelf Tk Tk.Lad
set_option linter.unusedVariables false
set_option linter.unusedSimpArgs false
attribute [local go_sem] Oper.semAt_some

theorem infoInt : (Tryd.prog.info? 3).map (fun i => (i.zero, i.size, i.bytes)) = some (some (.int .i64 0), 1, 8) := by kernel_rfl

set_option maxHeartbeats 400000 in
theorem falling_any (l : Nat) (w : World) :
    Calls Tryd.prog 67 #[.int .u32 l] w fun e w' => e = .returned (.func (.func 115) #[] #[.pointer (some ⟨w.heap.size, 0, none⟩)]) ∧ w.alloc (.cells #[.int .u32 l] 22) = w' := by
  go_enter Tryd.func67, Tryd.ntmps67
  go_wp2
  go_ret
  exact ⟨rfl, rfl⟩

/-- The ranks as numbers of Go's int. -/
def ranksI (l : Nat) : List Int := (ranks l).map (fun (n : Nat) => (n : Int))

set_option maxRecDepth 100000 in
set_option maxHeartbeats 1000000 in
/-- The iterator: it tells the ranks, falling, whatever the loop's body does with its own memory. -/
theorem falling_seq (L B1 l : Nat) (hl : l < 4294967296) (J : List Nat → World → Prop)
    (hY : ∀ pre (x m : Nat) W, J pre W → Boxed W B1 22 (.int .u32 m) → x < 32 → pre.length < 32 →
      ∃ fn tmps assign body, (Instr.yield L #[.int .i64 x]).run Tryd.prog W = .ok (.round L fn tmps assign body) W ∧
        RoundIn Fence.wide 3 Tryd.prog L fn tmps assign body W fun e W' => e = .returned (.bool true) ∧ J (pre ++ [x]) W' ∧ Boxed W' B1 22 (.int .u32 m))
    (hJ : ∀ pre W v v', J pre W → Boxed W B1 22 v → J pre (W.setCell ⟨B1, 0, none⟩ v')) (W : World) (h0 : J [] W) (hb : Boxed W B1 22 (.int .u32 l)) :
    CallsIn Fence.wide 4 Tryd.prog 115 #[.func (.yield L) #[] #[], .pointer (some ⟨B1, 0, none⟩)] W fun e W' => (∃ v, e = .returned v) ∧ J (ranks l) W' := by
  refine callsIn_of_wp Tryd.func115 rfl trivial ?_ rfl
  simp only [Tryd.ntmps115, List.size_toArray, List.length_cons, List.length_nil, Nat.reduceAdd, Nat.reduceSub, Array.replicate_succ, Array.replicate_zero, List.push_toArray, List.append_toArray, List.nil_append, List.cons_append]
  gi_wp2
  gi_loopg [3] (l + 1) (fun k _ wr => ∃ (m : Nat) (pre : List Nat), k = m + 1 ∧ m < 4294967296 ∧ Hid (pre ++ ranks m = ranks l) ∧ Boxed wr B1 22 (.int .u32 m) ∧ J pre wr)
  case atStart => exact ⟨l, [], rfl, hl, rfl, hb, h0⟩
  case round =>
    obtain ⟨m, pre, rfl, hm, he, hbm, hj⟩ := hrel
    have hc := hbm.cell
    by_cases hz : m = 0
    · subst hz
      gi_wp2_with (refine ⟨trivial, ?_⟩; gi_at_call 9; refine (callsIn_wide.2 (first_zero _)).mono ?_; rintro e w' ⟨rfl, rfl⟩)
      refine ⟨fun _ h => (by cases h), ?_⟩
      gi_wp2
      refine bodyPost_ret (results_none rfl _ _ _) rfl ?_
      exact ⟨⟨_, rfl⟩, by have := he.out; rw [ranks_zero, List.append_nil] at this; rw [← this]; exact hj⟩
    · have ht := top_lt hz hm
      have hlen : pre.length < 32 := by
        have h1 := ranks_len l
        rw [← he.out, ranks_cons hz hm] at h1
        simp at h1; omega
      obtain ⟨fn, tmps, assign, body, hy, hR⟩ := hY pre m.log2 m wr hj hbm ht hlen
      gi_wp2_with (first
        | (refine ⟨trivial, ?_⟩; gi_at_call 9; refine (callsIn_wide.2 (first_pos m hz hm _)).mono ?_; rintro e w' ⟨rfl, rfl⟩)
        | (refine hR.mono ?_; rintro e W3 ⟨rfl, hj3, hb3⟩; have hc3 := hb3.cell; have hf3 := hb3.frozen)
        | (refine ⟨trivial, ?_⟩; gi_at_call 116; refine (callsIn_wide.2 (clear_any m hm _ _)).mono ?_; rintro e w' ⟨rfl, rfl⟩))
      gi_roundg (clrN m m.log2 + 1)
      case rel => exact ⟨clrN m m.log2, pre ++ [m.log2], rfl, clr_lt hm _, by have := he.out; rw [ranks_cons hz hm] at this; show _ = _; rw [List.append_assoc]; exact this, hb3.set _, hJ _ _ _ _ hj3 hb3⟩
      case measure => have := clr_top_lt hz hm; omega

set_option maxRecDepth 100000 in
set_option maxHeartbeats 1000000 in
theorem list_in (l : Nat) (hl : l < 4294967296) (w : World) :
    CallsIn Fence.wide 5 Tryd.prog 8 #[.int .u32 l] w fun e w' =>
      ∃ v, e = .returned v ∧ w'.ownsRow w.heap.size 3 1 v (ranksI l).length ((ranksI l).map (Value.int .i64)) ∧ Below w.heap.size w w' := by
  obtain ⟨i0, hi, hz0, hz1, hz2⟩ := info_parts infoInt
  refine callsIn_of_wp_marks Tryd.func8 rfl trivial ?_ rfl
  simp only [Tryd.ntmps8, List.size_toArray, List.length_cons, List.length_nil, Nat.reduceAdd, Nat.reduceSub, Array.replicate_succ, Array.replicate_zero, List.push_toArray, List.append_toArray, List.nil_append, List.cons_append]
  gi_wp2_with (refine ⟨trivial, ?_⟩; gi_at_call 67; refine (callsIn_wide.2 (falling_any l _)).mono ?_; rintro e w' ⟨rfl, rfl⟩)
  have bO := Boxed.new w 23 (.slice none 0 0)
  have bN := Boxed.new (w.alloc (.cells #[.slice none 0 0] 23)) 22 (.int .u32 l)
  rw [World.size_alloc] at bN
  have hB0 : Below w.heap.size w ((w.alloc (.cells #[.slice none 0 0] 23)).alloc (.cells #[.int .u32 l] 22)) := ((Below.refl _ w).alloc (Nat.le_refl _) _).alloc (by simp) _
  refine wpIn_rangeFunc_free (by omega) (gf := 115) (lb := #[.pointer (some ⟨w.heap.size + 1, 0, none⟩)]) rfl (enters_of Tryd.func115 (by kernel_rfl) rfl) ?_
  intro fn rc hrc
  obtain ⟨W0, hW0⟩ : ∃ W0, ((w.alloc (.cells #[.slice none 0 0] 23)).alloc (.cells #[.int .u32 l] 22)) = W0 := ⟨_, rfl⟩
  have hs0 : W0.heap.size ≤ w.heap.size + 2 ∧ w.heap.size + 2 ≤ W0.heap.size := by rw [← hW0]; simp
  rw [hW0] at bN hB0 ⊢
  have bO := hW0 ▸ bO.alloc _
  clear hW0
  refine (falling_seq (W0.heap.size + 1) (w.heap.size + 1) l hl
    (fun pre W => ∃ v, Boxed W w.heap.size 23 v ∧ W.ownsRow w.heap.size 3 1 v (pre.map (fun (n : Nat) => (n : Int))).length ((pre.map (fun (n : Nat) => (n : Int))).map (Value.int .i64)) ∧ Below w.heap.size w W ∧
      W.heap[W0.heap.size]? = some (.deferred (some [])) ∧ W.heap[W0.heap.size + 1]? = some (.loop (rc .ready none))) ?hY ?hJ _ ?h0 ?hb).mono ?hend
  case hb => exact (bN.alloc _).alloc _
  case h0 =>
    refine ⟨_, (bO.alloc _).alloc _, ?_, ?_, ?_, ?_⟩
    · exact World.ownsRow_nil _ _ _ _
    · exact (hB0.alloc (by omega) _).alloc (by simp; omega) _
    · exact (Below.heap_alloc _ _ _ (by simp)).trans (World.alloc_heap_new W0 _)
    · have := World.alloc_heap_new (W0.alloc (.deferred (some []))); rw [World.size_alloc] at this; exact this _
  case hJ =>
    rintro pre W v v' ⟨u, hu, hr, hbl, hd, hL⟩ hb1
    have hg := grownBy_setCell' W (w.heap.size + 1) v'
    refine ⟨u, hu.kept hg (by simp), hr.kept hg ?_, hbl.setCell (p := ⟨w.heap.size + 1, 0, none⟩) (by simp) _, (hg.block _ (Array.getElem?_eq_some_iff.1 hd).1 (by simp; omega)).trans hd, (hg.block _ (Array.getElem?_eq_some_iff.1 hL).1 (by simp; omega)).trans hL⟩
    exact .inr (hb1.not_row (by decide) hr).symm
  case hY =>
    rintro pre x m W ⟨u, hu, hr, hbl, hd, hL⟩ hbx hx hlen
    have hy := run_yield (P := Tryd.prog) (args := #[.int .i64 x]) hL (by rw [hrc.out]; rfl)
    rw [hrc.out] at hy
    refine ⟨_, _, _, _, hy, roundIn_of_wpIn trivial ?_⟩
    gi_wp2
    refine ⟨_, run_beginRound hL (by rw [hrc.out]), ?_⟩
    have hlt : W0.heap.size + 1 < W.heap.size := (Array.getElem?_eq_some_iff.1 hL).1
    have hL2 := World.putObj_heap_same (w := W) (o := .loop { rc .ready none with state := .busy }) hlt
    have hd2 := (World.putObj_heap_other (w := W) (r := W0.heap.size + 1) (k := W0.heap.size) (o := .loop { rc .ready none with state := .busy }) (by omega)).trans hd
    have hb2 := hbl.trans (belowK_b (w := w) (Nat.le_refl _) W (W0.heap.size + 1) _ (.loop { rc .ready none with state := .busy }) (by omega) hL rfl rfl)
    have hg2 := grownBy_putObj' W (W0.heap.size + 1) (.loop { rc .ready none with state := .busy })
    have hu2 := hu.kept hg2 (by simp; omega)
    have hx2 := hbx.kept hg2 (by simp; omega)
    have hr2 := ownsRow_putObj hr (.loop { rc .ready none with state := .busy }) hL rfl
    clear hy hu hr hbl hd hbx hg2
    obtain ⟨W2, hW2⟩ : ∃ W2, W.putObj (W0.heap.size + 1) (.loop { rc .ready none with state := .busy }) = W2 := ⟨_, rfl⟩
    rw [hW2] at hL2 hd2 hb2 hu2 hx2 hr2 ⊢
    clear hW2 hL hlt
    have hc := hu2.cell
    gi_wp2_with (gi_at_builtin; refine wpListIn_append_own _ rfl _ _ 23 rfl w.heap.size 3 i0 (.int .i64 0) 1 8 Tryd.underlying23 hi hz0 hz1 hz2 rfl (by decide) _ _ _ rfl (hr2.alloc _) ⟨W2.heap.size, 0, none⟩ 1 1 [.int .i64 x] rfl rfl (cell_one_new _ _ _) (by simp [Value.oneCell']) (by rw [List.length_map]; unfold maxLen; omega) (by rw [List.length_map]; omega) (by have := hb2.size; simp; omega) ?_; intro v' w1 hown' hgrow _; obtain ⟨g', cap', rfl⟩ := ownsRow_succ hown'; obtain ⟨hv1, hv2, hr3, hk3, hb3⟩ := hu2.appended (by decide) hr2 hb2.size (Nat.le_refl _) hown' hgrow; have hc1 := hv1.cell; have hf1 := hv1.frozen)
    have hx3 := ((hx2.alloc _).kept hgrow (hx2.not_row (by decide) hr2)).kept (grownBy_setCell' w1 w.heap.size (.slice (some ⟨g', 0, none⟩) ((List.map (fun (n : Nat) => (n : Int)) pre).length + 1) cap')) (by simp)
    have hL3 := hk3.same _ _ hL2 rfl
    have hd3 := hk3.same _ _ hd2 rfl
    rw [List.length_map] at hv2 hr3 hk3 hb3 hx3 hL3 hd3
    refine ⟨_, _, run_endRound none hL3, rfl, ⟨_, hv2.kept (grownBy_putObj' _ _ _) (by simp; omega), ?_, ?_, ?_, ?_⟩, hx3.kept (grownBy_putObj' _ _ _) (by simp; omega)⟩
    · have := ownsRow_putObj hr3 (.loop { rc .busy none with state := .ready, pending := none }) hL3 rfl
      simp only [List.map_append, List.map_map, List.length_append, List.length_map, List.map_cons, List.map_nil, List.length_cons, List.length_nil] at this ⊢
      simpa using ownsRow_putObj hr3 _ hL3 rfl
    · exact (hb2.trans hb3).trans (belowK_b (w := w) (Nat.le_refl _) _ (W0.heap.size + 1) _ _ (by omega) hL3 rfl rfl)
    · exact (World.putObj_heap_other (by omega)).trans hd3
    · rw [World.putObj_heap_same (Array.getElem?_eq_some_iff.1 hL3).1, hrc.out]; rfl
  case hend =>
    rintro e W ⟨⟨v, rfl⟩, u, hu, hr, hbl, hd, hL⟩
    obtain ⟨o', hend⟩ : ∃ o', (Instr.endLoop (W0.heap.size + 1)).run Tryd.prog W = .ok none (W.putObj (W0.heap.size + 1) o') :=
      ⟨_, by rw [run_endLoop (P := Tryd.prog) hL (by rw [hrc.out]; simp), show (rc .ready none).pending = none by rw [hrc.out]]⟩
    refine ⟨none, _, hend, ?_⟩
    have hu2 := hu.kept (grownBy_putObj' W (W0.heap.size + 1) o') (by simp; omega)
    have hr2 := ownsRow_putObj hr o' hL rfl
    have hd2 := (World.putObj_heap_other (w := W) (r := W0.heap.size + 1) (k := W0.heap.size) (o := o') (by omega)).trans hd
    have hb2 := hbl.trans (belowK_b (w := w) (Nat.le_refl _) W (W0.heap.size + 1) _ o' (by omega) hL rfl rfl)
    obtain ⟨W2, hW2⟩ : ∃ W2, W.putObj (W0.heap.size + 1) o' = W2 := ⟨_, rfl⟩
    rw [hW2] at hu2 hr2 hd2 hb2 ⊢
    clear hW2 hend hu hr hbl hd hL hrc
    obtain ⟨A, c, rfl, -⟩ := SlA.of_owns hr2
    rw [List.length_map] at hu2
    have hc := hu2.cell
    have hf := hu2.frozen
    gi_wp2
    have hd3 := (Below.heap_setCell W2 ⟨w.heap.size, 0, none⟩ (.slice A (ranks l).length c) W0.heap.size (by simp; omega)).trans hd2
    have hu3 := hu2.set (.slice A (ranks l).length c)
    have hr3 := hr2.kept (grownBy_setCell' W2 w.heap.size (.slice A (ranks l).length c)) (.inr (hu2.not_row (by decide) hr2).symm)
    have hb3 := hb2.setCell (p := ⟨w.heap.size, 0, none⟩) (by simp) (.slice A (ranks l).length c)
    have hu4 := hu3.kept (grownBy_putObj' _ W0.heap.size (.deferred none)) (by simp; omega)
    have hr4 := ownsRow_putObj hr3 (.deferred none) hd3 rfl
    have hb4 := hb3.trans (belowK_b (w := w) (Nat.le_refl _) _ W0.heap.size _ (.deferred none) (by omega) hd3 rfl rfl)
    have hc4 := hu4.cell
    refine ⟨by simp, .inl ⟨_, _, rfl, run_takeDeferred hd3, ?_⟩⟩
    exact ⟨.slice A (ranks l).length c, by simp [results, Tryd.results8, go_sem, hc4], _, rfl, by simpa [ranksI] using hr4, hb4⟩
theorem list_any (l : Nat) (hl : l < 4294967296) (w : World) :
    Calls Tryd.prog 8 #[.int .u32 l] w fun e w' => ∃ A c, e = .returned (.slice A (ranksI l).length c) ∧ (ranksI l).length ≤ c ∧
      SlA w' w.heap.size w'.heap.size .i64 A (ranksI l) ∧ w.grownBy w' none :=
  (callsIn_wide.1 (list_in l hl w)).mono fun e w' ⟨v, he, hr, hb⟩ => by
    obtain ⟨A, c, rfl, h1, -, h3⟩ := SlA.of_owns hr
    exact ⟨A, c, he, h1, h3, grown_of_below hb⟩
#print axioms list_any
end Go.Proofs.YtabkkeeedlnmnaaDoor
