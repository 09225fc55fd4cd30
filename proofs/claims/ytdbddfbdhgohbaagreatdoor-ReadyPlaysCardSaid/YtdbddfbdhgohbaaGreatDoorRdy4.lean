/- Package ready: First. -/
import Derived.Test.YtdbddfbdhgohbaaGreatDoorRdy3
namespace Go.Proofs.YtdbddfbdhgohbaaGreatDoor
open Go.RowKit Go.Shelf Tk Tk.Lad Tk.Rdy
set_option linter.unusedVariables false
set_option linter.unusedSimpArgs false
attribute [local go_sem] Oper.semAt_some
theorem grown_cell {w w' : World} (h : w.grownBy w' none) {p : Addr} {v : Value} (hc : w.cell? p = some v) : w'.cell? p = some v := by
  rw [← hc]
  refine World.cell?_of_block (w := w) (h.block p.block ?_ (by simp))
  by_cases hb : p.block < w.heap.size
  · exact hb
  · exfalso
    unfold World.cell? at hc
    rw [Array.getElem?_eq_none (by omega)] at hc
    cases hc
section
variable {w w' : World} {Q : Nat} {Bs Ms : Nat → Nat} {ls : Nat → List Int} {rk : Nat → Nat} {has : Nat}
set_option maxHeartbeats 400000 in
theorem from_any (Q : Nat) (r : Int) (w : World) :
    Calls Tryz.prog 29 #[.pointer (some ⟨Q, 0, none⟩), .int .i64 r] w fun e w' => e = .returned (.func (.func 66) #[] #[.pointer (some ⟨w.heap.size, 0, none⟩), .pointer (some ⟨w.heap.size + 1, 0, none⟩)]) ∧ (w.alloc (.cells #[.pointer (some ⟨Q, 0, none⟩)] 24)).alloc (.cells #[.int .i64 r] 3) = w' := by
  go_enter Tryz.func29, Tryz.ntmps29
  go_wp2
  go_ret
  exact ⟨rfl, rfl⟩
set_option maxRecDepth 100000 in
set_option maxHeartbeats 2000000 in
theorem from_seq (L Bq Br : Nat) {r : Nat} (hr : r < 32) {v : Int} {ms : List Int} (hl : ls r = v :: ms) (J Jx : World → Prop)
    (hK : ∀ W, J W → W.cell? ⟨Bq, 0, none⟩ = some (.pointer (some ⟨Q, 0, none⟩)) ∧ W.cell? ⟨Br, 0, none⟩ = some (.int .i64 r) ∧ Rq W Q Bs Ms ls rk has)
    (hA : ∀ W W', J W → W.grownBy W' none → J W')
    (hY : ∀ W, J W →
      ∃ fn tmps assign body, (Instr.yield L #[.int .i64 v]).run Tryz.prog W = .ok (.round L fn tmps assign body) W ∧
        RoundIn Fence.wide 3 Tryz.prog L fn tmps assign body W fun e W' => e = .returned (.bool false) ∧ Jx W')
    (W : World) (h0 : J W) :
    CallsIn Fence.wide 4 Tryz.prog 66 #[.func (.yield L) #[] #[], .pointer (some ⟨Bq, 0, none⟩), .pointer (some ⟨Br, 0, none⟩)] W fun e W' => (∃ v, e = .returned v) ∧ Jx W' := by
  obtain ⟨c0, c1, hQ⟩ := hK W h0
  have hc := hQ.cl hr
  obtain ⟨f, c, hR⟩ := hQ.rg r hr
  obtain ⟨n, hn⟩ : ∃ n, (ls r).length = n := ⟨_, rfl⟩
  have hn0 : 0 < n := by rw [← hn, hl]; simp
  have hli := Lib.hid (list_n n hn (hR.keep (grown_drewN (grown_refl W none) 1)))
  have rI : (r : Int) < 32 := by omega
  have r0 : (0 : Int) ≤ (r : Int) := Int.natCast_nonneg _
  have hA' := Lib.hid (hA W)
  have hY' := Lib.hid hY
  clear hK hA hY hQ hR
  refine callsIn_of_wp Tryz.func66 rfl trivial ?_ rfl
  simp only [Tryz.ntmps66, List.size_toArray, List.length_cons, List.length_nil, Nat.reduceAdd, Nat.reduceSub, Array.replicate_succ, Array.replicate_zero, List.push_toArray, List.append_toArray, List.nil_append, List.cons_append]
  refine wpIn_wide.2 ?_
  go_wp2_with fail
  go_region_held3 (fun w' => w'.cell? ⟨Bq, 0, none⟩ = some (.pointer (some ⟨Q, 0, none⟩)) ∧ w'.cell? ⟨Br, 0, none⟩ = some (.int .i64 r) ∧ w'.cell? ⟨Q, 1 + r, none⟩ = some (.pointer (some ⟨Bs r, 0, none⟩))) (first | go_keep | exact ⟨grown_cell hg7 c0, grown_cell hg7 c1, grown_cell hg7 hc⟩)
    (first | (go_at_call 31; refine hli.out.mono ?_; rintro e w7 ⟨A, k, rfl, hk, hM, hg7⟩))
  all_goals
    have hJ7 := hA'.out w7 h0 ⟨hg7.os, hg7.tape, hg7.output, hg7.size, hg7.block⟩
    have hln : (ls r).length = n := hn
    obtain ⟨g, o, rfl, hce⟩ := hM.sl.at (i := 0) (by rw [hln]; exact hn0)
    have hv : gd (ls r) 0 = v := by rw [hl]; rfl
    rw [hv, Nat.add_zero] at hce
    obtain ⟨fn, tmps, assign, body, hy, hY2⟩ := hY'.out w7 hJ7
    have nI : (0 : Int) < (n : Int) := by omega
    clear hM hli hA' hln hl hn
    go_wp2_with fail
    refine (wpIn_wide (n := 4)).1 ?_
    gi_wp2
    gi_loopw [14] (fun i wr => i = .int .i64 0 ∧ wr = w7) (fun _ _ => 0)
    case atStart => exact ⟨rfl, rfl⟩
    case round =>
      obtain ⟨rfl, hww⟩ := hrel
      obtain rfl : w7 = wr := hww.symm
      gi_wp2_with (refine hY2.mono ?_; rintro e W3 ⟨rfl, hx⟩)
      refine bodyPost_ret (results_none rfl _ _ _) rfl ?_
      exact ⟨⟨_, rfl⟩, hx⟩
set_option maxRecDepth 100000 in
set_option maxHeartbeats 4000000 in
/-- Who runs next. -/
theorem firstq_in_in (h : Rq w Q Bs Ms ls rk has) (hh : has < 4294967296) (h0 : has ≠ 0) {v : Int} {ms : List Int} (hl : ls has.log2 = v :: ms) :
    CallsIn Fence.wide 5 Tryz.prog 9 #[.pointer (some ⟨Q, 0, none⟩)] w fun e w' => e = .returned (.tuple #[.int .i64 v, .bool true]) ∧ Below w.heap.size w w' := by
  have hr := top_lt h0 hh
  have b0 := (Boxed.new w 3 (.int .i64 0)).alloc (.cells #[.bool false] 4)
  have b1 := Boxed.new (w.alloc (.cells #[.int .i64 0] 3)) 4 (.bool false)
  simp only [World.size_alloc] at b1
  have hg2 := grown_alloc (grown_alloc (grown_refl w none) (.cells #[.int .i64 0] 3)) (.cells #[.bool false] 4)
  have hB2 : Below w.heap.size w ((w.alloc (.cells #[.int .i64 0] 3)).alloc (.cells #[.bool false] 4)) := ((Below.refl _ w).alloc (Nat.le_refl _) _).alloc (by simp) _
  have hsz : ((w.alloc (.cells #[.int .i64 0] 3)).alloc (.cells #[.bool false] 4)).heap.size = w.heap.size + 2 := by simp
  have h2 := h.keep hg2
  have hth := Lib.hid h2.there
  have hc0 := h2.c0
  have hK := Lib.hid (fun wr (hg : w.grownBy wr none) => h.keep hg)
  have hfs := Lib.hid (from_seq (ls := ls) (Q := Q) (Bs := Bs) (Ms := Ms) (rk := rk) (has := has) (hr := hr) (hl := hl))
  have hfi := Lib.hid (first_pos has h0 hh)
  obtain ⟨rr, hrr⟩ : ∃ rr, has.log2 = rr := ⟨_, rfl⟩
  rw [hrr] at hfs hfi hr
  replace hrr := Lib.hid hrr
  clear h h2 h0 hl
  refine callsIn_of_wp_marks Tryz.func9 rfl trivial ?_ rfl
  simp only [Tryz.ntmps9, List.size_toArray, List.length_cons, List.length_nil, Nat.reduceAdd, Nat.reduceSub, Array.replicate_succ, Array.replicate_zero, List.push_toArray, List.append_toArray, List.nil_append, List.cons_append]
  gi_wp2_with (first
    | (refine ⟨trivial, ?_⟩; gi_at_call 27; refine (callsIn_wide.2 hth.out).mono ?_; rintro e w' ⟨rfl, rfl⟩)
    | (refine ⟨trivial, ?_⟩; gi_at_call 28; refine (callsIn_wide.2 (hfi.out _)).mono ?_; rintro e w' ⟨rfl, rfl⟩)
    | (refine ⟨trivial, ?_⟩; gi_at_call 29; refine (callsIn_wide.2 (from_any Q rr _)).mono ?_; rintro e w' ⟨rfl, rfl⟩))
  clear hc0
  obtain ⟨W3, hW3⟩ : ∃ W3, ((w.alloc (.cells #[.int .i64 0] 3)).alloc (.cells #[.bool false] 4)) = W3 := ⟨_, rfl⟩
  rw [hW3] at b0 b1 hB2 hsz ⊢
  clear hW3 hth hg2
  have b3 := (Boxed.new W3 24 (.pointer (some ⟨Q, 0, none⟩))).alloc (.cells #[.int .i64 rr] 3)
  have b4 := Boxed.new (W3.alloc (.cells #[.pointer (some ⟨Q, 0, none⟩)] 24)) 3 (.int .i64 rr)
  rw [World.size_alloc, hsz] at b4
  rw [hsz] at b3
  have b0 := (b0.alloc (.cells #[.pointer (some ⟨Q, 0, none⟩)] 24)).alloc (.cells #[.int .i64 rr] 3)
  have b1 := (b1.alloc (.cells #[.pointer (some ⟨Q, 0, none⟩)] 24)).alloc (.cells #[.int .i64 rr] 3)
  have hB5 := (hB2.alloc (by omega) (.cells #[.pointer (some ⟨Q, 0, none⟩)] 24)).alloc (by simp; omega) (.cells #[.int .i64 rr] 3)
  have hsz0 : ((W3.alloc (.cells #[.pointer (some ⟨Q, 0, none⟩)] 24)).alloc (.cells #[.int .i64 rr] 3)).heap.size = w.heap.size + 4 := by simp; omega
  obtain ⟨W0, hW0⟩ : ∃ W0, (W3.alloc (.cells #[.pointer (some ⟨Q, 0, none⟩)] 24)).alloc (.cells #[.int .i64 rr] 3) = W0 := ⟨_, rfl⟩
  rw [hW0] at b0 b1 b3 b4 hB5 hsz0 ⊢
  clear hW0 hB2 hsz
  replace hsz0 : W0.heap.size ≤ w.heap.size + 4 ∧ w.heap.size + 4 ≤ W0.heap.size := by omega
  refine wpIn_rangeFunc_free (by omega) (gf := 66) (lb := #[.pointer (some ⟨w.heap.size + 2, 0, none⟩), .pointer (some ⟨w.heap.size + 2 + 1, 0, none⟩)]) rfl (enters_of Tryz.func66 (by kernel_rfl) rfl) ?_
  intro fn rc hrc
  refine (hfs.out (W0.heap.size + 1) (w.heap.size + 2) (w.heap.size + 2 + 1)
    (fun W => (Boxed W w.heap.size 3 (.int .i64 0) ∧ Boxed W (w.heap.size + 1) 4 (.bool false)) ∧ Boxed W (w.heap.size + 2) 24 (.pointer (some ⟨Q, 0, none⟩)) ∧ Boxed W (w.heap.size + 2 + 1) 3 (.int .i64 rr) ∧ Below w.heap.size w W ∧
      W.heap[W0.heap.size]? = some (.deferred (some [])) ∧ W.heap[W0.heap.size + 1]? = some (.loop (rc .ready none)))
    (fun W => (Boxed W w.heap.size 3 (.int .i64 v) ∧ Boxed W (w.heap.size + 1) 4 (.bool true)) ∧ Below w.heap.size w W ∧
      W.heap[W0.heap.size]? = some (.deferred (some [])) ∧ W.heap[W0.heap.size + 1]? = some (.loop (rc .done (some .ret)))) ?hK ?hA ?hY _ ?h0).mono ?hend
  case hK =>
    rintro W ⟨⟨u0, u1⟩, u3, u4, hbl, hd, hL⟩
    exact ⟨u3.cell, u4.cell, hK.out _ (grown_of_below hbl)⟩
  case hA =>
    rintro W W' ⟨⟨u0, u1⟩, u3, u4, hbl, hd, hL⟩ hg
    exact ⟨⟨u0.kept hg (by simp), u1.kept hg (by simp)⟩, u3.kept hg (by simp), u4.kept hg (by simp), hbl.trans ((below_of_grown hg).mono hbl.size), (hg.block _ (Array.getElem?_eq_some_iff.1 hd).1 (by simp)).trans hd, (hg.block _ (Array.getElem?_eq_some_iff.1 hL).1 (by simp)).trans hL⟩
  case h0 =>
    refine ⟨⟨(b0.alloc _).alloc _, (b1.alloc _).alloc _⟩, (b3.alloc _).alloc _, (b4.alloc _).alloc _, ?_, ?_, ?_⟩
    · exact (hB5.alloc (by omega) _).alloc (by simp; omega) _
    · exact (Below.heap_alloc _ _ _ (by simp)).trans (World.alloc_heap_new W0 _)
    · have := World.alloc_heap_new (W0.alloc (.deferred (some []))); rw [World.size_alloc] at this; exact this _
  case hY =>
    rintro W ⟨⟨u0, u1⟩, u3, u4, hbl, hd, hL⟩
    have hy := run_yield (P := Tryz.prog) (args := #[.int .i64 v]) hL (by rw [hrc.out]; rfl)
    rw [hrc.out] at hy
    refine ⟨_, _, _, _, hy, roundIn_of_wpIn trivial ?_⟩
    gi_wp2
    refine ⟨_, run_beginRound hL (by rw [hrc.out]), ?_⟩
    have hlt : W0.heap.size + 1 < W.heap.size := (Array.getElem?_eq_some_iff.1 hL).1
    have hL2 := World.putObj_heap_same (w := W) (o := .loop { rc .ready none with state := .busy }) hlt
    have hd2 := (World.putObj_heap_other (w := W) (r := W0.heap.size + 1) (k := W0.heap.size) (o := .loop { rc .ready none with state := .busy }) (by omega)).trans hd
    have hb2 := hbl.trans (belowK_b (w := w) (Nat.le_refl _) W (W0.heap.size + 1) _ (.loop { rc .ready none with state := .busy }) (by omega) hL rfl rfl)
    have hg2 := grownBy_putObj' W (W0.heap.size + 1) (.loop { rc .ready none with state := .busy })
    have v0 := u0.kept hg2 (by simp; omega)
    have v1 := u1.kept hg2 (by simp; omega)
    clear hy u1 u0 u3 u4 hbl hd hg2
    obtain ⟨W2, hW2⟩ : ∃ W2, W.putObj (W0.heap.size + 1) (.loop { rc .ready none with state := .busy }) = W2 := ⟨_, rfl⟩
    rw [hW2] at hL2 hd2 hb2 v0 v1 ⊢
    clear hW2 hL hlt
    have c0 := v0.cell
    have f0 := v0.frozen
    have c1 := v1.cell
    have f1 := v1.frozen
    gi_wp2
    have v0' := (v0.set (.int .i64 v)).kept (grownBy_setCell' (W2.setCell ⟨w.heap.size, 0, none⟩ (.int .i64 v)) (w.heap.size + 1) (.bool true)) (by simp)
    have v1' := (v1.kept (grownBy_setCell' W2 w.heap.size (.int .i64 v)) (by simp)).set (.bool true)
    have hL3 := (Below.heap_setCell (W2.setCell ⟨w.heap.size, 0, none⟩ (.int .i64 v)) ⟨w.heap.size + 1, 0, none⟩ (.bool true) (W0.heap.size + 1) (by simp; omega)).trans ((Below.heap_setCell W2 ⟨w.heap.size, 0, none⟩ (.int .i64 v) (W0.heap.size + 1) (by simp; omega)).trans hL2)
    have hd3 := (Below.heap_setCell (W2.setCell ⟨w.heap.size, 0, none⟩ (.int .i64 v)) ⟨w.heap.size + 1, 0, none⟩ (.bool true) W0.heap.size (by simp; omega)).trans ((Below.heap_setCell W2 ⟨w.heap.size, 0, none⟩ (.int .i64 v) W0.heap.size (by simp; omega)).trans hd2)
    have hb3 := (hb2.setCell (p := ⟨w.heap.size, 0, none⟩) (by simp) (.int .i64 v)).setCell (p := ⟨w.heap.size + 1, 0, none⟩) (by simp) (.bool true)
    refine ⟨_, _, run_endRound (some .ret) hL3, rfl, ⟨v0'.kept (grownBy_putObj' _ _ _) (by simp; omega), v1'.kept (grownBy_putObj' _ _ _) (by simp; omega)⟩, ?_, ?_, ?_⟩
    · exact hb3.trans (belowK_b (w := w) (Nat.le_refl _) _ (W0.heap.size + 1) _ _ (by omega) hL3 rfl rfl)
    · exact (World.putObj_heap_other (by omega)).trans hd3
    · rw [World.putObj_heap_same (Array.getElem?_eq_some_iff.1 hL3).1, hrc.out]; rfl
  case hend =>
    rintro e W ⟨⟨x, rfl⟩, ⟨u0, u1⟩, hbl, hd, hL⟩
    obtain ⟨o', hend⟩ : ∃ o', (Instr.endLoop (W0.heap.size + 1)).run Tryz.prog W = .ok (some .ret) (W.putObj (W0.heap.size + 1) o') :=
      ⟨_, by rw [run_endLoop (P := Tryz.prog) hL (by rw [hrc.out]; simp), show (rc .done (some .ret)).pending = some .ret by rw [hrc.out]]⟩
    refine ⟨some .ret, _, hend, ?_⟩
    have v0 := u0.kept (grownBy_putObj' W (W0.heap.size + 1) o') (by simp; omega)
    have v1 := u1.kept (grownBy_putObj' W (W0.heap.size + 1) o') (by simp; omega)
    have hd2 := (World.putObj_heap_other (w := W) (r := W0.heap.size + 1) (k := W0.heap.size) (o := o') (by omega)).trans hd
    have hb2 := hbl.trans (belowK_b (w := w) (Nat.le_refl _) W (W0.heap.size + 1) _ o' (by omega) hL rfl rfl)
    obtain ⟨W2, hW2⟩ : ∃ W2, W.putObj (W0.heap.size + 1) o' = W2 := ⟨_, rfl⟩
    rw [hW2] at v0 v1 hd2 hb2 ⊢
    clear hW2 hend u0 u1 hbl hd hL hrc
    gi_wp2
    have v0 := v0.kept (grownBy_putObj' _ W0.heap.size (.deferred none)) (by simp; omega)
    have v1 := v1.kept (grownBy_putObj' _ W0.heap.size (.deferred none)) (by simp; omega)
    have hb4 := hb2.trans (belowK_b (w := w) (Nat.le_refl _) _ W0.heap.size _ (.deferred none) (by omega) hd2 rfl rfl)
    have c0 := v0.cell
    have c1 := v1.cell
    refine ⟨by simp, .inl ⟨_, _, rfl, run_takeDeferred hd2, ?_⟩⟩
    exact ⟨.tuple #[.int .i64 v, .bool true], by simp [results, Tryz.results9, go_sem, c0, c1], rfl, hb4⟩
theorem firstq_in (h : Rq w Q Bs Ms ls rk has) (hh : has < 4294967296) (h0 : has ≠ 0) {v : Int} {ms : List Int} (hl : ls has.log2 = v :: ms) :
    Calls Tryz.prog 9 #[.pointer (some ⟨Q, 0, none⟩)] w fun e w' => e = .returned (.tuple #[.int .i64 v, .bool true]) ∧ w.grownBy w' none :=
  (callsIn_wide.1 (firstq_in_in h hh h0 hl)).mono fun e w' ⟨he, hb⟩ => ⟨he, grown_of_below hb⟩
theorem firstq_no (h : Rq w Q Bs Ms ls rk 0) :
    Calls Tryz.prog 9 #[.pointer (some ⟨Q, 0, none⟩)] w fun e w' => e = .returned (.tuple #[.int .i64 0, .bool false]) ∧ w.grownBy w' none := by
  have hg2 := grown_alloc (grown_alloc (grown_refl w none) (.cells #[.int .i64 0] 3)) (.cells #[.bool false] 4)
  have h2 := h.keep hg2
  have hth := Lib.hid h2.there
  have hc0 := h2.c0
  replace hc0 : ((w.alloc (.cells #[.int .i64 0] 3)).alloc (.cells #[.bool false] 4)).cell? ⟨Q, 0, none⟩ = some (.int .u32 0) := hc0
  have b0 := (Boxed.new w 3 (.int .i64 0)).alloc (.cells #[.bool false] 4)
  have b1 := Boxed.new (w.alloc (.cells #[.int .i64 0] 3)) 4 (.bool false)
  simp only [World.size_alloc] at b1
  have e0 := Lib.hid b0.cell
  have e1 := Lib.hid b1.cell
  replace hg2 := Lib.hid hg2
  clear h h2 b0 b1
  go_enter Tryz.func9, Tryz.ntmps9
  go_wp2_with fail
  refine hth.out.mono ?_; rintro e w' ⟨rfl, rfl⟩
  go_wp2_with fail
  refine (first_zero _).mono ?_; rintro e w' ⟨rfl, rfl⟩
  go_wp2_with fail
  (try simp only [Exit.inBlock, Exit.then]); refine bodyPost_ret (v := .tuple #[.int .i64 0, .bool false]) (by have := e0.out; have := e1.out; simp [results, Tryz.results9, go_sem, *]) rfl ?_
  exact ⟨rfl, hg2.out⟩
end
end Go.Proofs.YtdbddfbdhgohbaaGreatDoor
