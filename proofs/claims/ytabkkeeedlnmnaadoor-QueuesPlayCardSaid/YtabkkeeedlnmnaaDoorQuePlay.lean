/- QueuesPlay: whatever is done, the queue and the reference's answer alike, and all lists lie apart. -/
import Derived.Test.YtabkkeeedlnmnaaDoorQueP
import Derived.Test.YtabkkeeedlnmnaaDoorRws
namespace Go.Proofs.YtabkkeeedlnmnaaDoor
open Go.RowKit Go.Shelf Tk
set_option linter.unusedVariables false
set_option linter.unusedSimpArgs false
theorem six (r : Nat) : ((r : Int) % 6 == 0) = true ∨ (((r : Int) % 6 == 0) = false ∧ ((r : Int) % 6 == 1) = true) ∨ (((r : Int) % 6 == 0) = false ∧ ((r : Int) % 6 == 1) = false ∧ ((r : Int) % 6 == 2) = true) ∨
    (((r : Int) % 6 == 0) = false ∧ ((r : Int) % 6 == 1) = false ∧ ((r : Int) % 6 == 2) = false ∧ ((r : Int) % 6 == 3) = true) ∨
    (((r : Int) % 6 == 0) = false ∧ ((r : Int) % 6 == 1) = false ∧ ((r : Int) % 6 == 2) = false ∧ ((r : Int) % 6 == 3) = false ∧ ((r : Int) % 6 == 4) = true) ∨
    (((r : Int) % 6 == 0) = false ∧ ((r : Int) % 6 == 1) = false ∧ ((r : Int) % 6 == 2) = false ∧ ((r : Int) % 6 == 3) = false ∧ ((r : Int) % 6 == 4) = false) := by
  simp only [beq_iff_eq, beq_eq_false_iff_ne]; omega
theorem meas_q (n k : Nat) (h : k < n) : n - (intOf (.int .i64 ((k : Int) + 1))).toNat < n - (intOf (.int .i64 (k : Int))).toNat := by simp [intOf]; omega
theorem same_w {w : World} {b b' : Nat} {u v : Value} {xs : List Int} (hu : Mine w b 22 .u32 u xs) (hv : Mine w b' 22 .u32 v xs) (hm : xs.length ≤ 1000000) :
    Calls Tryd.prog 24 #[u, v] w fun e w' => e = .returned (.bool true) ∧ w.grownBy w' none := by
  obtain ⟨A, c, rfl, hc, -⟩ := hu.form
  obtain ⟨B, d, rfl, hd, -⟩ := hv.form
  exact (sameWords_any A B c d _ _ _ _ xs xs w hc hd hm hm hu.sl hv.sl).mono fun e w' ⟨he, n, hw⟩ => ⟨by rw [he, decide_eq_true rfl], by rw [← hw]; exact grown_drewN (grown_refl _ _) n⟩
theorem QPL.refList {w0 w : World} {B R K m k : Nat} {msA msB : List Int} {l : Value} {xs : List Int} (h : QPL w0 w B R K m k msA msB l xs) (h64 : msB.length ≤ 1000) :
    Calls Tryd.prog 54 #[.pointer (some ⟨R, 0, none⟩)] w fun e w' => ∃ u, e = .returned u ∧ Mine w' w.heap.size 22 .u32 u msB ∧ w.grownBy w' none := by
  obtain ⟨f, c, v, rv, V, U, N, h, -, -⟩ := h
  exact RefQ.list_ok h.ref h64
theorem QP.start {w0 w : World} {B R m : Nat} {f : Nat} {c : Nat → Int} (T : TypeId) (hq : Que w B m [] f c) (hr : RefQ.RQ w R m (.slice none 0 0) []) (hB : w0.heap.size ≤ B) (hR : w0.heap.size ≤ R) (hne : B ≠ R) (hg : w0.grownBy w none) :
    QP w0 (w.alloc (.cells #[.int .i64 0, .slice none 0 0, .slice none 0 0, .slice none 0 0, .slice none 0 0, .slice none 0 0, .slice none 0 0, .slice none 0 0, .slice none 0 0] T)) B R w.heap.size m 0 [] [] := by
  have hgA := World.grownBy_alloc w (.cells #[.int .i64 0, .slice none 0 0, .slice none 0 0, .slice none 0 0, .slice none 0 0, .slice none 0 0, .slice none 0 0, .slice none 0 0, .slice none 0 0] T) none
  have h1 := hq.arr.lt
  have h2 := hr.hdr.lt
  refine ⟨f, c, _, _, _, _, _, hq.keep hgA, hr.keep hgA, (BkWord.BkU.made (base := w0.heap.size) w T hg.size).toBkL, ⟨?_, ?_⟩, ?_, ⟨hB, ?_⟩, grown_trans hg hgA⟩
  · rintro (e | e)
    · exact hne e
    · cases e
  · rintro ((e | e) | ⟨i, hi, -⟩)
    · omega
    · cases e
    · exact absurd hi (Nat.not_lt_zero _)
  · rintro b (rfl | e)
    · rintro ((e | e) | ⟨i, hi, -⟩)
      · omega
      · cases e
      · exact absurd hi (Nat.not_lt_zero _)
    · cases e
  · rintro b (rfl | e)
    · exact hR
    · cases e
set_option maxRecDepth 100000 in
set_option maxHeartbeats 8000000 in
theorem queuesPlay_walk (mm : Int) (wm : (Lit.int .i64 mm).wf = true) (A1 : Option Addr) (c1 : Nat) (L : Nat) (T : Nat → Nat → Int) (hl1 : L ≤ c1) (w : World)
    (hs1 : RowsA w [.u8, .u32] A1 L T) (hf1 : ∀ i, i < L → ∀ q, q < [IntKind.u8, .u32].length → (Lit.int ([IntKind.u8, .u32].getD q .u8) (T i q)).wf = true) (hb1 : L * 8 ≤ 140737488351232) :
    Calls Tryd.prog 6 #[.int .i64 mm, .slice A1 L c1] w fun e w' => e = .returned (.bool true) ∧ w.grownBy w' none := by
  have hfit : ∀ i, i < L → 0 ≤ T i 0 ∧ T i 0 < 256 := fun i hi => by
    have := hf1 i hi 0 (by decide)
    exact wf_u8 this
  replace hfit := Lib.hid hfit
  clear hf1 wm hb1
  by_cases hlen : 300 < L
  · have hd : decide ((300 : Int) < (L : Int)) = true := decide_eq_true (by omega)
    clear hlen hs1
    go_enter Tryd.func6, Tryd.ntmps6
    go_wp2_with fail
    go_ret
    exact ⟨rfl, grown_refl _ _⟩
  · have hL : L ≤ 300 := by omega
    have hd : decide ((300 : Int) < (L : Int)) = false := decide_eq_false (by omega)
    have hK1 := Lib.hid (fun wr (h : w.grownBy wr none) => hs1.kept h)
    clear hlen hs1
    by_cases hm : mm < 1 ∨ 64 < mm
    · replace hm := Lib.hid hm
      go_enter Tryd.func6, Tryd.ntmps6
      go_wp2_with fail
      refine (new_bad mm hm.out _).mono ?_; rintro e w' ⟨rfl, rfl⟩
      go_wp2_with fail
      refine (RefQ.new_bad mm hm.out _).mono ?_; rintro e w' ⟨rfl, rfl⟩
      go_wp2_with fail
      go_ret
      exact ⟨rfl, grown_refl _ _⟩
    · obtain ⟨m, rfl⟩ := Int.eq_ofNat_of_zero_le (by omega : 0 ≤ mm)
      have hm1 : Hid (1 ≤ m) := by show _ ≤ _; omega
      have hm2 : Hid (m ≤ 64) := by show _ ≤ _; omega
      clear hm
      go_enter Tryd.func6, Tryd.ntmps6
      go_wp2_with fail
      refine (new_ok m hm1.out hm2.out _).mono ?_; rintro e wa ⟨rfl, hQ, hga, hsa⟩
      have hQ' := Lib.hid hQ
      have hga' := Lib.hid hga
      have hsa' := Lib.hid hsa
      clear hQ hga hsa
      go_wp2_with fail
      refine (RefQ.new_ok m hm1.out hm2.out _).mono ?_; rintro e wb ⟨rfl, hR, hgb, hsb⟩
      have hst := Lib.hid (QP.start (w0 := w) 37 (hQ'.out.keep hgb) hR (Nat.le_refl _) hga'.out.size (by have := hsa'.out; omega) (grown_trans hga'.out hgb))
      clear hR hgb hsb
      obtain ⟨B, hB⟩ : ∃ B, w.heap.size = B := ⟨_, rfl⟩
      obtain ⟨R, hRr⟩ : ∃ R, wa.heap.size = R := ⟨_, rfl⟩
      rw [hB, hRr] at hst
      rw [hB, hRr]
      clear hB hRr hQ' hga' hsa'
      go_wp2_with fail
      obtain ⟨K, hKk⟩ : ∃ K, wb.heap.size = K := ⟨_, rfl⟩
      rw [hKk] at hst
      rw [hKk]
      clear hKk
      obtain ⟨W, hW⟩ : ∃ W, wb.alloc (.cells #[.int .i64 0, .slice none 0 0, .slice none 0 0, .slice none 0 0, .slice none 0 0, .slice none 0 0, .slice none 0 0, .slice none 0 0, .slice none 0 0] 37) = W := ⟨_, rfl⟩
      rw [hW] at hst
      rw [hW]
      clear hW
      go_loopw [10] (fun i wr => ∃ (k : Nat) (ms : List Int), k ≤ L ∧ i = .int .i64 k ∧ QP w wr B R K m k ms ms) (fun i _ => L - (intOf i).toNat)
      case atStart => exact ⟨0, [], Nat.zero_le _, rfl, hst.out⟩
      case round =>
        obtain ⟨k, ms, hk, rfl, hP⟩ := hrel
        clear hst
        by_cases hlt : k < L
        · obtain ⟨b, o, rfl, hb, hcs⟩ := (hK1.out _ hP.g).at hlt
          have hc := hcs 0 (by decide)
          have hc1 := hcs 1 (by decide)
          obtain ⟨r1, r2⟩ := hfit.out k hlt
          generalize T k 0 = r at *
          generalize hv : T k 1 = x at *
          obtain ⟨r, rfl⟩ := Int.eq_ofNat_of_zero_le r1
          have hr := six r
          have hkI : (k : Int) < (L : Int) := by omega
          clear r1 hcs hv
          simp only [List.length_cons, List.length_nil, Nat.reduceAdd, Nat.add_zero, List.getD_cons_zero, List.getD_cons_succ] at hc hc1
          have hP1 := Lib.hid (hP.keep (World.grownBy_alloc wr (.cells #[.int .u8 (r : Int), .int .u32 x] 89) none))
          obtain ⟨f, c, hQ⟩ := hP1.out.que
          have hle := Lib.hid hP.le.1
          have hBl : Hid (B < wr.heap.size) := by
            obtain ⟨f, c, h⟩ := hP.que; exact h.arr.lt
          have hX := Lib.hid (Arr.new wr #[.int .u8 (r : Int), .int .u32 x] 89 2 (fun i => if i = 0 then .int .u8 (r : Int) else .int .u32 x) rfl (fun i hi => by
            rcases (by omega : i = 0 ∨ i = 1) with rfl | rfl <;> rfl))
          clear hP
          rcases hr with d0 | ⟨d0, d1⟩ | ⟨d0, d1, d2⟩ | ⟨d0, d1, d2, d3⟩ | ⟨d0, d1, d2, d3, d4⟩ | ⟨d0, d1, d2, d3, d4⟩
          · -- 0
            obtain ⟨g, ms', hA, hB⟩ := pair_put (B := B) (R := R) (m := m) x ms hm2.out hle.out
            have hA' := Lib.hid (hA _ f c hQ)
            have hB' := Lib.hid hB
            have hgg : (g != g) = false := by simp
            clear hA hB hQ
            go_wp2_with fail
            refine hA'.out.mono ?_; rintro e w1 ⟨rfl, hq1, g1⟩
            have hP2 := Lib.hid (hP1.out.obj g1 hq1)
            have hx1 : w1.cell? ⟨wr.heap.size, 1, none⟩ = some (.int .u32 x) := (hX.out.kept g1 (fun e => by cases e; exact absurd hBl.out (Nat.lt_irrefl _))).cell (i := 1) (by decide)
            go_wp2_with fail
            refine (hP2.out.step (E := fun e => e = .returned (.int .i64 g)) (hB'.out w1)).mono ?_; rintro e w2 ⟨rfl, hP3⟩
            have hL64 : Hid (ms'.length ≤ 64) := Nat.le_trans hP3.le.1 hP3.le.2
            obtain ⟨f3, c3, hQ3⟩ := hP3.que
            replace hP3 := Lib.hid hP3
            clear hP2 g1 hq1
            go_wp2_with fail
            refine (list_ok w2 hQ3).mono ?_; rintro e w3 ⟨A3, k3, rfl, hk3, hM3, g3⟩
            have hL3 := Lib.hid (hP3.out.list g3 hM3)
            have hM3' := Lib.hid hM3
            clear hQ3 g3 hM3 hk3
            go_wp2_with fail
            refine (hL3.out.refList (Nat.le_trans hL64.out (by decide))).mono ?_; rintro e w4 ⟨u, rfl, hMu, g4⟩
            have hL4 := Lib.hid (hL3.out.keep g4)
            have hM4 := Lib.hid (hM3'.out.keep g4)
            have hMu' := Lib.hid hMu
            clear g4 hMu
            go_wp2_with fail
            refine (same_w hM4.out hMu'.out (Nat.le_trans hL64.out (by decide))).mono ?_; rintro e w5 ⟨rfl, g5⟩
            have hL5 := Lib.hid (hL4.out.keep g5)
            clear g5
            go_wp2_with fail
            refine (hL5.out.words (by omega) (Nat.le_trans hL64.out (by decide))).mono ?_; rintro e w6 ⟨⟨y, rfl⟩, hP6⟩
            have hP6' := Lib.hid hP6
            clear hP6
            go_wp2_with fail
            go_roundw
            case rel => exact ⟨k + 1, ms', by omega, by go_num, hP6'.out⟩
            case measure => exact meas_q L k hlt
          · -- 1
            obtain ⟨g, ms', hA, hB⟩ := pair_put (B := B) (R := R) (m := m) x ms hm2.out hle.out
            have hA' := Lib.hid (hA _ f c hQ)
            have hB' := Lib.hid hB
            have hgg : (g != g) = false := by simp
            clear hA hB hQ
            go_wp2_with fail
            refine hA'.out.mono ?_; rintro e w1 ⟨rfl, hq1, g1⟩
            have hP2 := Lib.hid (hP1.out.obj g1 hq1)
            have hx1 : w1.cell? ⟨wr.heap.size, 1, none⟩ = some (.int .u32 x) := (hX.out.kept g1 (fun e => by cases e; exact absurd hBl.out (Nat.lt_irrefl _))).cell (i := 1) (by decide)
            go_wp2_with fail
            refine (hP2.out.step (E := fun e => e = .returned (.int .i64 g)) (hB'.out w1)).mono ?_; rintro e w2 ⟨rfl, hP3⟩
            have hL64 : Hid (ms'.length ≤ 64) := Nat.le_trans hP3.le.1 hP3.le.2
            obtain ⟨f3, c3, hQ3⟩ := hP3.que
            replace hP3 := Lib.hid hP3
            clear hP2 g1 hq1
            go_wp2_with fail
            refine (list_ok w2 hQ3).mono ?_; rintro e w3 ⟨A3, k3, rfl, hk3, hM3, g3⟩
            have hL3 := Lib.hid (hP3.out.list g3 hM3)
            have hM3' := Lib.hid hM3
            clear hQ3 g3 hM3 hk3
            go_wp2_with fail
            refine (hL3.out.refList (Nat.le_trans hL64.out (by decide))).mono ?_; rintro e w4 ⟨u, rfl, hMu, g4⟩
            have hL4 := Lib.hid (hL3.out.keep g4)
            have hM4 := Lib.hid (hM3'.out.keep g4)
            have hMu' := Lib.hid hMu
            clear g4 hMu
            go_wp2_with fail
            refine (same_w hM4.out hMu'.out (Nat.le_trans hL64.out (by decide))).mono ?_; rintro e w5 ⟨rfl, g5⟩
            have hL5 := Lib.hid (hL4.out.keep g5)
            clear g5
            go_wp2_with fail
            refine (hL5.out.words (by omega) (Nat.le_trans hL64.out (by decide))).mono ?_; rintro e w6 ⟨⟨y, rfl⟩, hP6⟩
            have hP6' := Lib.hid hP6
            clear hP6
            go_wp2_with fail
            go_roundw
            case rel => exact ⟨k + 1, ms', by omega, by go_num, hP6'.out⟩
            case measure => exact meas_q L k hlt
          · -- 2
            obtain ⟨g, ms', hA, hB⟩ := pair_push (B := B) (R := R) (m := m) x ms hm2.out hle.out
            have hA' := Lib.hid (hA _ f c hQ)
            have hB' := Lib.hid hB
            have hgg : (g != g) = false := by simp
            clear hA hB hQ
            go_wp2_with fail
            refine hA'.out.mono ?_; rintro e w1 ⟨rfl, hq1, g1⟩
            have hP2 := Lib.hid (hP1.out.obj g1 hq1)
            have hx1 : w1.cell? ⟨wr.heap.size, 1, none⟩ = some (.int .u32 x) := (hX.out.kept g1 (fun e => by cases e; exact absurd hBl.out (Nat.lt_irrefl _))).cell (i := 1) (by decide)
            go_wp2_with fail
            refine (hP2.out.step (E := fun e => e = .returned (.int .i64 g)) (hB'.out w1)).mono ?_; rintro e w2 ⟨rfl, hP3⟩
            have hL64 : Hid (ms'.length ≤ 64) := Nat.le_trans hP3.le.1 hP3.le.2
            obtain ⟨f3, c3, hQ3⟩ := hP3.que
            replace hP3 := Lib.hid hP3
            clear hP2 g1 hq1
            go_wp2_with fail
            refine (list_ok w2 hQ3).mono ?_; rintro e w3 ⟨A3, k3, rfl, hk3, hM3, g3⟩
            have hL3 := Lib.hid (hP3.out.list g3 hM3)
            have hM3' := Lib.hid hM3
            clear hQ3 g3 hM3 hk3
            go_wp2_with fail
            refine (hL3.out.refList (Nat.le_trans hL64.out (by decide))).mono ?_; rintro e w4 ⟨u, rfl, hMu, g4⟩
            have hL4 := Lib.hid (hL3.out.keep g4)
            have hM4 := Lib.hid (hM3'.out.keep g4)
            have hMu' := Lib.hid hMu
            clear g4 hMu
            go_wp2_with fail
            refine (same_w hM4.out hMu'.out (Nat.le_trans hL64.out (by decide))).mono ?_; rintro e w5 ⟨rfl, g5⟩
            have hL5 := Lib.hid (hL4.out.keep g5)
            clear g5
            go_wp2_with fail
            refine (hL5.out.words (by omega) (Nat.le_trans hL64.out (by decide))).mono ?_; rintro e w6 ⟨⟨y, rfl⟩, hP6⟩
            have hP6' := Lib.hid hP6
            clear hP6
            go_wp2_with fail
            go_roundw
            case rel => exact ⟨k + 1, ms', by omega, by go_num, hP6'.out⟩
            case measure => exact meas_q L k hlt
          · -- 3
            obtain ⟨y0, g, ms', hA, hB⟩ := pair_take (B := B) (R := R) (m := m) ms hm2.out hle.out
            have hA' := Lib.hid (hA _ f c hQ)
            have hB' := Lib.hid hB
            have hgg : (g != g) = false := by simp
            have hyy : (y0 != y0) = false := by simp
            clear hA hB hQ
            go_wp2_with fail
            refine hA'.out.mono ?_; rintro e w1 ⟨rfl, hq1, g1⟩
            have hP2 := Lib.hid (hP1.out.obj g1 hq1)
            have hx1 : w1.cell? ⟨wr.heap.size, 1, none⟩ = some (.int .u32 x) := (hX.out.kept g1 (fun e => by cases e; exact absurd hBl.out (Nat.lt_irrefl _))).cell (i := 1) (by decide)
            go_wp2_with fail
            refine (hP2.out.step (E := fun e => e = .returned (.tuple #[.int .u32 y0, .int .i64 g])) (hB'.out w1)).mono ?_; rintro e w2 ⟨rfl, hP3⟩
            have hL64 : Hid (ms'.length ≤ 64) := Nat.le_trans hP3.le.1 hP3.le.2
            obtain ⟨f3, c3, hQ3⟩ := hP3.que
            replace hP3 := Lib.hid hP3
            clear hP2 g1 hq1
            go_wp2_with fail
            refine (list_ok w2 hQ3).mono ?_; rintro e w3 ⟨A3, k3, rfl, hk3, hM3, g3⟩
            have hL3 := Lib.hid (hP3.out.list g3 hM3)
            have hM3' := Lib.hid hM3
            clear hQ3 g3 hM3 hk3
            go_wp2_with fail
            refine (hL3.out.refList (Nat.le_trans hL64.out (by decide))).mono ?_; rintro e w4 ⟨u, rfl, hMu, g4⟩
            have hL4 := Lib.hid (hL3.out.keep g4)
            have hM4 := Lib.hid (hM3'.out.keep g4)
            have hMu' := Lib.hid hMu
            clear g4 hMu
            go_wp2_with fail
            refine (same_w hM4.out hMu'.out (Nat.le_trans hL64.out (by decide))).mono ?_; rintro e w5 ⟨rfl, g5⟩
            have hL5 := Lib.hid (hL4.out.keep g5)
            clear g5
            go_wp2_with fail
            refine (hL5.out.words (by omega) (Nat.le_trans hL64.out (by decide))).mono ?_; rintro e w6 ⟨⟨y, rfl⟩, hP6⟩
            have hP6' := Lib.hid hP6
            clear hP6
            go_wp2_with fail
            go_roundw
            case rel => exact ⟨k + 1, ms', by omega, by go_num, hP6'.out⟩
            case measure => exact meas_q L k hlt
          · -- 4
            obtain ⟨y0, g, ms', hA, hB⟩ := pair_take (B := B) (R := R) (m := m) ms hm2.out hle.out
            have hA' := Lib.hid (hA _ f c hQ)
            have hB' := Lib.hid hB
            have hgg : (g != g) = false := by simp
            have hyy : (y0 != y0) = false := by simp
            clear hA hB hQ
            go_wp2_with fail
            refine hA'.out.mono ?_; rintro e w1 ⟨rfl, hq1, g1⟩
            have hP2 := Lib.hid (hP1.out.obj g1 hq1)
            have hx1 : w1.cell? ⟨wr.heap.size, 1, none⟩ = some (.int .u32 x) := (hX.out.kept g1 (fun e => by cases e; exact absurd hBl.out (Nat.lt_irrefl _))).cell (i := 1) (by decide)
            go_wp2_with fail
            refine (hP2.out.step (E := fun e => e = .returned (.tuple #[.int .u32 y0, .int .i64 g])) (hB'.out w1)).mono ?_; rintro e w2 ⟨rfl, hP3⟩
            have hL64 : Hid (ms'.length ≤ 64) := Nat.le_trans hP3.le.1 hP3.le.2
            obtain ⟨f3, c3, hQ3⟩ := hP3.que
            replace hP3 := Lib.hid hP3
            clear hP2 g1 hq1
            go_wp2_with fail
            refine (list_ok w2 hQ3).mono ?_; rintro e w3 ⟨A3, k3, rfl, hk3, hM3, g3⟩
            have hL3 := Lib.hid (hP3.out.list g3 hM3)
            have hM3' := Lib.hid hM3
            clear hQ3 g3 hM3 hk3
            go_wp2_with fail
            refine (hL3.out.refList (Nat.le_trans hL64.out (by decide))).mono ?_; rintro e w4 ⟨u, rfl, hMu, g4⟩
            have hL4 := Lib.hid (hL3.out.keep g4)
            have hM4 := Lib.hid (hM3'.out.keep g4)
            have hMu' := Lib.hid hMu
            clear g4 hMu
            go_wp2_with fail
            refine (same_w hM4.out hMu'.out (Nat.le_trans hL64.out (by decide))).mono ?_; rintro e w5 ⟨rfl, g5⟩
            have hL5 := Lib.hid (hL4.out.keep g5)
            clear g5
            go_wp2_with fail
            refine (hL5.out.words (by omega) (Nat.le_trans hL64.out (by decide))).mono ?_; rintro e w6 ⟨⟨y, rfl⟩, hP6⟩
            have hP6' := Lib.hid hP6
            clear hP6
            go_wp2_with fail
            go_roundw
            case rel => exact ⟨k + 1, ms', by omega, by go_num, hP6'.out⟩
            case measure => exact meas_q L k hlt
          · -- 5
            obtain ⟨y0, g, ms', hA, hB⟩ := pair_peek (B := B) (R := R) (m := m) ms hm2.out hle.out
            have hA' := Lib.hid (hA _ f c hQ)
            have hB' := Lib.hid hB
            have hgg : (g != g) = false := by simp
            have hyy : (y0 != y0) = false := by simp
            clear hA hB hQ
            go_wp2_with fail
            refine hA'.out.mono ?_; rintro e w1 ⟨rfl, hq1, g1⟩
            have hP2 := Lib.hid (hP1.out.obj g1 hq1)
            have hx1 : w1.cell? ⟨wr.heap.size, 1, none⟩ = some (.int .u32 x) := (hX.out.kept g1 (fun e => by cases e; exact absurd hBl.out (Nat.lt_irrefl _))).cell (i := 1) (by decide)
            go_wp2_with fail
            refine (hP2.out.step (E := fun e => e = .returned (.tuple #[.int .u32 y0, .int .i64 g])) (hB'.out w1)).mono ?_; rintro e w2 ⟨rfl, hP3⟩
            have hL64 : Hid (ms'.length ≤ 64) := Nat.le_trans hP3.le.1 hP3.le.2
            obtain ⟨f3, c3, hQ3⟩ := hP3.que
            replace hP3 := Lib.hid hP3
            clear hP2 g1 hq1
            go_wp2_with fail
            refine (list_ok w2 hQ3).mono ?_; rintro e w3 ⟨A3, k3, rfl, hk3, hM3, g3⟩
            have hL3 := Lib.hid (hP3.out.list g3 hM3)
            have hM3' := Lib.hid hM3
            clear hQ3 g3 hM3 hk3
            go_wp2_with fail
            refine (hL3.out.refList (Nat.le_trans hL64.out (by decide))).mono ?_; rintro e w4 ⟨u, rfl, hMu, g4⟩
            have hL4 := Lib.hid (hL3.out.keep g4)
            have hM4 := Lib.hid (hM3'.out.keep g4)
            have hMu' := Lib.hid hMu
            clear g4 hMu
            go_wp2_with fail
            refine (same_w hM4.out hMu'.out (Nat.le_trans hL64.out (by decide))).mono ?_; rintro e w5 ⟨rfl, g5⟩
            have hL5 := Lib.hid (hL4.out.keep g5)
            clear g5
            go_wp2_with fail
            refine (hL5.out.words (by omega) (Nat.le_trans hL64.out (by decide))).mono ?_; rintro e w6 ⟨⟨y, rfl⟩, hP6⟩
            have hP6' := Lib.hid hP6
            clear hP6
            go_wp2_with fail
            go_roundw
            case rel => exact ⟨k + 1, ms', by omega, by go_num, hP6'.out⟩
            case measure => exact meas_q L k hlt
        · have hP' := Lib.hid hP
          obtain rfl : L = k := by omega
          clear hP
          go_wp2_with fail
          refine (hP'.out.apart (by omega)).mono ?_; rintro e w6 ⟨rfl, g6⟩
          go_wp2_with fail
          go_ret
          exact ⟨rfl, g6⟩
end Go.Proofs.YtabkkeeedlnmnaaDoor
