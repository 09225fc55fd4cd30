/- PoolsPlay: whatever is done, the pool and the reference's answer alike, and all lists lie apart. -/
import Derived.Test.YtabkkeeedlnmnaaDoorPolP2
import Derived.Test.YtabkkeeedlnmnaaDoorRws
namespace Go.Proofs.YtabkkeeedlnmnaaDoor
open Go.RowKit Go.Shelf Tk
set_option linter.unusedVariables false
set_option linter.unusedSimpArgs false
theorem four (r : Nat) : ((r : Int) % 4 == 0) = true ∨ (((r : Int) % 4 == 0) = false ∧ ((r : Int) % 4 == 1) = true) ∨ (((r : Int) % 4 == 0) = false ∧ ((r : Int) % 4 == 1) = false ∧ ((r : Int) % 4 == 2) = true) ∨
    (((r : Int) % 4 == 0) = false ∧ ((r : Int) % 4 == 1) = false ∧ ((r : Int) % 4 == 2) = false) := by
  simp only [beq_iff_eq, beq_eq_false_iff_ne]; omega
theorem meas_q (n k : Nat) (h : k < n) : n - (intOf (.int .i64 ((k : Int) + 1))).toNat < n - (intOf (.int .i64 (k : Int))).toNat := by simp [intOf]; omega
theorem same_w {w : World} {b b' : Nat} {u v : Value} {xs : List Int} (hu : Mine w b 22 .u32 u xs) (hv : Mine w b' 22 .u32 v xs) (hm : xs.length ≤ 1000000) :
    Calls Tryd.prog 24 #[u, v] w fun e w' => e = .returned (.bool true) ∧ w.grownBy w' none := by
  obtain ⟨A, c, rfl, hc, -⟩ := hu.form
  obtain ⟨B, d, rfl, hd, -⟩ := hv.form
  exact (sameWords_any A B c d _ _ _ _ xs xs w hc hd hm hm hu.sl hv.sl).mono fun e w' ⟨he, n, hw⟩ => ⟨by rw [he, decide_eq_true rfl], by rw [← hw]; exact grown_drewN (grown_refl _ _) n⟩
theorem QPL.refList {w0 w : World} {B R K m k : Nat} {msA msB : List Int} {l : Value} {xs : List Int} (h : QPL w0 w B R K m k msA msB l xs) :
    Calls Tryd.prog 64 #[.pointer (some ⟨R, 0, none⟩)] w fun e w' => ∃ u, e = .returned u ∧ Mine w' w.heap.size 22 .u32 u msB ∧ w.grownBy w' none := by
  obtain ⟨f, c, v, rv, V, U, N, h, -, -⟩ := h
  exact RefP.list_ok h.ref
theorem QPL.refLeft {w0 w : World} {B R K m k : Nat} {msA msB : List Int} {l : Value} {xs : List Int} (h : QPL w0 w B R K m k msA msB l xs) :
    Calls Tryd.prog 66 #[.pointer (some ⟨R, 0, none⟩)] w fun e w' => e = .returned (.int .i64 (msB.count 0)) ∧ w = w' := by
  obtain ⟨f, c, v, rv, V, U, N, h, -, -⟩ := h
  exact RefP.left_ok h.ref
theorem QPL.que {w0 w : World} {B R K m k : Nat} {msA msB : List Int} {l : Value} {xs : List Int} (h : QPL w0 w B R K m k msA msB l xs) : Pl w B msA := by
  obtain ⟨f, c, v, rv, V, U, N, h, -, -⟩ := h
  exact h.que
theorem QP.start {w0 w : World} {B R m : Nat} {v : Value} {os : List Int} (T : TypeId) (hq : Pl w B os) (hr : RefP.RQ w R m v os) (hB : w0.heap.size ≤ B) (hR : B < R) (hv : ∀ b, v.ownBlock = some b → B < b) (hg : w0.grownBy w none) :
    QP w0 (w.alloc (.cells #[.int .i64 0, .slice none 0 0, .slice none 0 0, .slice none 0 0, .slice none 0 0, .slice none 0 0, .slice none 0 0, .slice none 0 0, .slice none 0 0] T)) B R w.heap.size m 0 os os := by
  have hgA := World.grownBy_alloc w (.cells #[.int .i64 0, .slice none 0 0, .slice none 0 0, .slice none 0 0, .slice none 0 0, .slice none 0 0, .slice none 0 0, .slice none 0 0, .slice none 0 0] T) none
  have h1 := hq.arr.lt
  refine ⟨0, fun _ => 0, _, _, _, _, _, hq.keep hgA, hr.keep hgA, (BkWord.BkU.made (base := w0.heap.size) w T hg.size).toBkL, ⟨?_, ?_⟩, ?_, ⟨hB, ?_⟩, grown_trans hg hgA⟩
  · rintro (e | e)
    · omega
    · have := hv B e; omega
  · rintro ((e | e) | ⟨i, hi, -⟩)
    · omega
    · cases e
    · exact absurd hi (Nat.not_lt_zero _)
  · rintro b hb
    have := hr.lt b hb
    rintro ((e | e) | ⟨i, hi, -⟩)
    · omega
    · cases e
    · exact absurd hi (Nat.not_lt_zero _)
  · rintro b (rfl | e)
    · omega
    · have := hv b e; omega
set_option maxRecDepth 100000 in
set_option maxHeartbeats 8000000 in
theorem poolsPlay_walk (mm : Int) (wm : (Lit.int .i64 mm).wf = true) (zz : Int) (wz : (Lit.int .i64 zz).wf = true) (A1 : Option Addr) (c1 : Nat) (L : Nat) (T : Nat → Nat → Int) (hl1 : L ≤ c1) (w : World)
    (hs1 : RowsA w [.u8, .u32, .i64] A1 L T) (hf1 : ∀ i, i < L → ∀ q, q < [IntKind.u8, .u32, .i64].length → (Lit.int ([IntKind.u8, .u32, .i64].getD q .u8) (T i q)).wf = true) (hb1 : L * 16 ≤ 140737488351232) :
    Calls Tryd.prog 7 #[.int .i64 mm, .int .i64 zz, .slice A1 L c1] w fun e w' => e = .returned (.bool true) ∧ w.grownBy w' none := by
  have hfit : ∀ i, i < L → 0 ≤ T i 0 ∧ T i 0 < 256 := fun i hi => by
    have := hf1 i hi 0 (by decide)
    exact wf_u8 this
  replace hfit := Lib.hid hfit
  clear hf1 wm wz hb1
  by_cases hlen : 300 < L
  · have hd : decide ((300 : Int) < (L : Int)) = true := decide_eq_true (by omega)
    clear hlen hs1
    go_enter Tryd.func7, Tryd.ntmps7
    go_wp2_with fail
    go_ret
    exact ⟨rfl, grown_refl _ _⟩
  · have hL : L ≤ 300 := by omega
    have hd : decide ((300 : Int) < (L : Int)) = false := decide_eq_false (by omega)
    have hK1 := Lib.hid (fun wr (h : w.grownBy wr none) => hs1.kept h)
    clear hlen hs1
    by_cases hm : mm < 1 ∨ (1 ≤ mm ∧ 64 < mm) ∨ (1 ≤ mm ∧ mm ≤ 64 ∧ zz < 1) ∨ (1 ≤ mm ∧ mm ≤ 64 ∧ 1 ≤ zz ∧ 256 < zz)
    · replace hm := Lib.hid hm
      go_enter Tryd.func7, Tryd.ntmps7
      go_wp2_with fail
      refine (new_bad mm zz hm.out _).mono ?_; rintro e w' ⟨rfl, rfl⟩
      go_wp2_with fail
      refine (RefP.new_bad mm zz hm.out _).mono ?_; rintro e w' ⟨rfl, rfl⟩
      go_wp2_with fail
      go_ret
      exact ⟨rfl, grown_refl _ _⟩
    · obtain ⟨m, rfl⟩ := Int.eq_ofNat_of_zero_le (by omega : 0 ≤ mm)
      have hm1 : Hid (1 ≤ m) := by show _ ≤ _; omega
      have hm2 : Hid (m ≤ 64) := by show _ ≤ _; omega
      have hm3 : Hid (1 ≤ zz) := by show _ ≤ _; omega
      have hm4 : Hid (zz ≤ 256) := by show _ ≤ _; omega
      clear hm
      go_enter Tryd.func7, Tryd.ntmps7
      go_wp2_with fail
      refine (new_ok m (m : Int) zz rfl hm1.out hm2.out hm3.out hm4.out _).mono ?_; rintro e wa ⟨rfl, hQ, hga, hsa⟩
      have hQ' := Lib.hid hQ
      have hga' := Lib.hid hga
      have hsa' := Lib.hid hsa
      clear hQ hga hsa
      go_wp2_with fail
      refine (RefP.new_ok m zz hm1.out hm2.out hm3.out hm4.out _).mono ?_; rintro e wb ⟨R, v, rfl, hR, hgb, hRl, hvl⟩
      have hst := Lib.hid (QP.start (w0 := w) 37 (hQ'.out.keep hgb) hR (Nat.le_refl _) (by have := hsa'.out; omega) (fun b hb => by have := hsa'.out; have := hvl b hb; omega) (grown_trans hga'.out hgb))
      clear hR hgb hRl hvl
      obtain ⟨B, hB⟩ : ∃ B, w.heap.size = B := ⟨_, rfl⟩
      rw [hB] at hst
      rw [hB]
      clear hB hQ' hga' hsa'
      go_wp2_with fail
      obtain ⟨K, hKk⟩ : ∃ K, wb.heap.size = K := ⟨_, rfl⟩
      rw [hKk] at hst
      rw [hKk]
      clear hKk
      obtain ⟨W, hW⟩ : ∃ W, wb.alloc (.cells #[.int .i64 0, .slice none 0 0, .slice none 0 0, .slice none 0 0, .slice none 0 0, .slice none 0 0, .slice none 0 0, .slice none 0 0, .slice none 0 0] 37) = W := ⟨_, rfl⟩
      rw [hW] at hst
      rw [hW]
      clear hW
      go_loopw [12] (fun i wr => ∃ (k : Nat) (ms : List Int), k ≤ L ∧ i = .int .i64 k ∧ QP w wr B R K m k ms ms) (fun i _ => L - (intOf i).toNat)
      case atStart => exact ⟨0, _, Nat.zero_le _, rfl, hst.out⟩
      case round =>
        obtain ⟨k, ms, hk, rfl, hP⟩ := hrel
        clear hst
        by_cases hlt : k < L
        · obtain ⟨b, o, rfl, hb, hcs⟩ := (hK1.out _ hP.g).at hlt
          have hc := hcs 0 (by decide)
          have hc1 := hcs 1 (by decide)
          have hc2 := hcs 2 (by decide)
          obtain ⟨r1, r2⟩ := hfit.out k hlt
          generalize T k 0 = r at *
          generalize hv : T k 1 = x at *
          generalize hv2 : T k 2 = z at *
          obtain ⟨r, rfl⟩ := Int.eq_ofNat_of_zero_le r1
          have hr := four r
          have hkI : (k : Int) < (L : Int) := by omega
          clear r1 hcs hv hv2
          simp only [List.length_cons, List.length_nil, Nat.reduceAdd, Nat.add_zero, List.getD_cons_zero, List.getD_cons_succ] at hc hc1 hc2
          have hX := Arr.new wr #[.int .u8 (r : Int), .int .u32 x, .int .i64 z] 99 3 (fun i => if i = 0 then .int .u8 (r : Int) else if i = 1 then .int .u32 x else .int .i64 z) rfl (fun i hi => by
            rcases (by omega : i = 0 ∨ i = 1 ∨ i = 2) with rfl | rfl | rfl <;> rfl)
          have hle := Lib.hid hP.le
          have hP1 := Lib.hid (hP.withX _ _ hX)
          clear hP hX
          have hPd : Hid (QPX w (wr.alloc (.cells #[.int .u8 (r : Int), .int .u32 x, .int .i64 z] 99)).drew B R K m k wr.heap.size 3 (fun i => if i = 0 then .int .u8 (r : Int) else if i = 1 then .int .u32 x else .int .i64 z) ms ms) := hP1.out.keep (grown_drewN (grown_refl _ _) 1)
          rcases hr with d0 | ⟨d0, d1⟩ | ⟨d0, d1, d2⟩ | ⟨d0, d1, d2⟩
          · -- 0
            obtain ⟨y0, g, ms', hA, hB⟩ := pair_alloc (B := B) (R := R) (m := m) x ms
            have hA' := Lib.hid hA
            have hB' := Lib.hid hB
            have hgg : (g != g) = false := by simp
            have hyy : (y0 != y0) = false := by simp
            clear hA hB
            go_wp2_with fail
            refine (hA'.out _ hP1.out.qp.que).mono ?_; rintro e w1 ⟨rfl, hq1, g1⟩
            have hP2 := Lib.hid (hP1.out.obj g1 hq1)
            have hx1 : w1.cell? ⟨wr.heap.size, 1, none⟩ = some (.int .u32 x) := hP2.out.arr.cell (i := 1) (by decide)
            go_wp2_with fail
            refine (hP2.out.step (E := fun e => e = .returned (.tuple #[.int .i64 y0, .int .i64 g])) (hB'.out w1)).mono ?_; rintro e w2 ⟨rfl, hP3⟩
            replace hP3 := hP3.qp
            clear hx1 hP2 g1 hq1
            have hL64 : Hid (ms'.length ≤ 64) := hP3.le.1
            have hQ3 := hP3.que
            replace hP3 := Lib.hid hP3
            go_wp2_with fail
            refine (owners_ok w2 hQ3).mono ?_; rintro e w3 ⟨A3, k3, rfl, hk3, hM3, g3⟩
            have hL3 := Lib.hid (hP3.out.list g3 hM3)
            have hM3' := Lib.hid hM3
            clear hQ3 g3 hM3 hk3
            go_wp2_with fail
            refine hL3.out.refList.mono ?_; rintro e w4 ⟨u, rfl, hMu, g4⟩
            have hL4 := Lib.hid (hL3.out.keep g4)
            have hM4 := Lib.hid (hM3'.out.keep g4)
            have hMu' := Lib.hid hMu
            clear g4 hMu
            go_wp2_with fail
            refine (same_w hM4.out hMu'.out (Nat.le_trans hL64.out (by decide))).mono ?_; rintro e w5 ⟨rfl, g5⟩
            have hL5 := Lib.hid (hL4.out.keep g5)
            clear g5
            have hcc : ((ms'.count 0 : Int) != (ms'.count 0 : Int)) = false := by simp
            go_wp2_with fail
            refine (left_ok w5 hL5.out.que).mono ?_; rintro e w6 ⟨rfl, n6, hw6⟩
            have hL6 := Lib.hid (hL5.out.keep (w' := w6) (by rw [← hw6]; exact grown_drewN (grown_refl _ _) n6))
            clear hw6
            go_wp2_with fail
            refine (hL6.out.refLeft).mono ?_; rintro e w7 ⟨rfl, rfl⟩
            go_wp2_with fail
            refine (hL6.out.words (by omega) (Nat.le_trans hL64.out (by decide))).mono ?_; rintro e w8 ⟨⟨y, rfl⟩, hP6⟩
            have hP6' := Lib.hid hP6
            clear hP6
            go_wp2_with fail
            go_roundw
            case rel => exact ⟨k + 1, ms', by omega, by go_num, hP6'.out⟩
            case measure => exact meas_q L k hlt
          · -- 1
            obtain ⟨y0, g, ms', hA, hB⟩ := pair_alloc (B := B) (R := R) (m := m) x ms
            have hA' := Lib.hid hA
            have hB' := Lib.hid hB
            have hgg : (g != g) = false := by simp
            have hyy : (y0 != y0) = false := by simp
            clear hA hB
            go_wp2_with fail
            refine (hA'.out _ hP1.out.qp.que).mono ?_; rintro e w1 ⟨rfl, hq1, g1⟩
            have hP2 := Lib.hid (hP1.out.obj g1 hq1)
            have hx1 : w1.cell? ⟨wr.heap.size, 1, none⟩ = some (.int .u32 x) := hP2.out.arr.cell (i := 1) (by decide)
            go_wp2_with fail
            refine (hP2.out.step (E := fun e => e = .returned (.tuple #[.int .i64 y0, .int .i64 g])) (hB'.out w1)).mono ?_; rintro e w2 ⟨rfl, hP3⟩
            replace hP3 := hP3.qp
            clear hx1 hP2 g1 hq1
            have hL64 : Hid (ms'.length ≤ 64) := hP3.le.1
            have hQ3 := hP3.que
            replace hP3 := Lib.hid hP3
            go_wp2_with fail
            refine (owners_ok w2 hQ3).mono ?_; rintro e w3 ⟨A3, k3, rfl, hk3, hM3, g3⟩
            have hL3 := Lib.hid (hP3.out.list g3 hM3)
            have hM3' := Lib.hid hM3
            clear hQ3 g3 hM3 hk3
            go_wp2_with fail
            refine hL3.out.refList.mono ?_; rintro e w4 ⟨u, rfl, hMu, g4⟩
            have hL4 := Lib.hid (hL3.out.keep g4)
            have hM4 := Lib.hid (hM3'.out.keep g4)
            have hMu' := Lib.hid hMu
            clear g4 hMu
            go_wp2_with fail
            refine (same_w hM4.out hMu'.out (Nat.le_trans hL64.out (by decide))).mono ?_; rintro e w5 ⟨rfl, g5⟩
            have hL5 := Lib.hid (hL4.out.keep g5)
            clear g5
            have hcc : ((ms'.count 0 : Int) != (ms'.count 0 : Int)) = false := by simp
            go_wp2_with fail
            refine (left_ok w5 hL5.out.que).mono ?_; rintro e w6 ⟨rfl, n6, hw6⟩
            have hL6 := Lib.hid (hL5.out.keep (w' := w6) (by rw [← hw6]; exact grown_drewN (grown_refl _ _) n6))
            clear hw6
            go_wp2_with fail
            refine (hL6.out.refLeft).mono ?_; rintro e w7 ⟨rfl, rfl⟩
            go_wp2_with fail
            refine (hL6.out.words (by omega) (Nat.le_trans hL64.out (by decide))).mono ?_; rintro e w8 ⟨⟨y, rfl⟩, hP6⟩
            have hP6' := Lib.hid hP6
            clear hP6
            go_wp2_with fail
            go_roundw
            case rel => exact ⟨k + 1, ms', by omega, by go_num, hP6'.out⟩
            case measure => exact meas_q L k hlt
          · -- 2
            obtain ⟨g, ms', hA, hB⟩ := pair_free (B := B) (R := R) (m := m) x z ms
            have hA' := Lib.hid hA
            have hB' := Lib.hid hB
            have hgg : (g != g) = false := by simp
            clear hA hB
            have s1 : (wr.alloc (.cells #[.int .u8 (r : Int), .int .u32 x, .int .i64 z] 99)).drew.cell? ⟨wr.heap.size, 1, none⟩ = some (.int .u32 x) := hPd.out.arr.cell (i := 1) (by decide)
            have s2 : (wr.alloc (.cells #[.int .u8 (r : Int), .int .u32 x, .int .i64 z] 99)).drew.cell? ⟨wr.heap.size, 2, none⟩ = some (.int .i64 z) := hPd.out.arr.cell (i := 2) (by decide)
            go_wp2_with fail
            go_region_held3 (fun w' => w'.cell? ⟨wr.heap.size, 1, none⟩ = some (.int .u32 x) ∧ w'.cell? ⟨wr.heap.size, 2, none⟩ = some (.int .i64 z)) (first | exact ⟨s1, s2⟩ | exact ⟨t1, t2⟩ | exact ⟨u1, u2⟩ | go_keep)
              (first
                | (go_at_call 59; refine (hA'.out _ hPd.out.qp.que).mono ?_; rintro e w1 ⟨rfl, hq1, g1⟩; have hP2 := Lib.hid (hPd.out.obj g1 hq1); have t1 : w1.cell? ⟨wr.heap.size, 1, none⟩ = some (.int .u32 x) := hP2.out.arr.cell (i := 1) (by decide); have t2 : w1.cell? ⟨wr.heap.size, 2, none⟩ = some (.int .i64 z) := hP2.out.arr.cell (i := 2) (by decide))
                | (go_at_call 60; refine (hP2.out.step (E := fun e => e = .returned (.int .i64 g)) (hB'.out w1)).mono ?_; rintro e w2 ⟨rfl, hP3⟩; have u1 : w2.cell? ⟨wr.heap.size, 1, none⟩ = some (.int .u32 x) := hP3.arr.cell (i := 1) (by decide); have u2 : w2.cell? ⟨wr.heap.size, 2, none⟩ = some (.int .i64 z) := hP3.arr.cell (i := 2) (by decide)))
            all_goals
              replace hP3 := hP3.qp
              clear s1 s2 t1 t2 u1 u2 hP2 g1 hq1
              have hL64 : Hid (ms'.length ≤ 64) := hP3.le.1
              have hQ3 := hP3.que
              replace hP3 := Lib.hid hP3
              go_wp2_with fail
              refine (owners_ok w2 hQ3).mono ?_; rintro e w3 ⟨A3, k3, rfl, hk3, hM3, g3⟩
              have hL3 := Lib.hid (hP3.out.list g3 hM3)
              have hM3' := Lib.hid hM3
              clear hQ3 g3 hM3 hk3
              go_wp2_with fail
              refine hL3.out.refList.mono ?_; rintro e w4 ⟨u, rfl, hMu, g4⟩
              have hL4 := Lib.hid (hL3.out.keep g4)
              have hM4 := Lib.hid (hM3'.out.keep g4)
              have hMu' := Lib.hid hMu
              clear g4 hMu
              go_wp2_with fail
              refine (same_w hM4.out hMu'.out (Nat.le_trans hL64.out (by decide))).mono ?_; rintro e w5 ⟨rfl, g5⟩
              have hL5 := Lib.hid (hL4.out.keep g5)
              clear g5
              have hcc : ((ms'.count 0 : Int) != (ms'.count 0 : Int)) = false := by simp
              go_wp2_with fail
              refine (left_ok w5 hL5.out.que).mono ?_; rintro e w6 ⟨rfl, n6, hw6⟩
              have hL6 := Lib.hid (hL5.out.keep (w' := w6) (by rw [← hw6]; exact grown_drewN (grown_refl _ _) n6))
              clear hw6
              go_wp2_with fail
              refine (hL6.out.refLeft).mono ?_; rintro e w7 ⟨rfl, rfl⟩
              go_wp2_with fail
              refine (hL6.out.words (by omega) (Nat.le_trans hL64.out (by decide))).mono ?_; rintro e w8 ⟨⟨y, rfl⟩, hP6⟩
              have hP6' := Lib.hid hP6
              clear hP6
              go_wp2_with fail
              go_roundw
              case rel => exact ⟨k + 1, ms', by omega, by go_num, hP6'.out⟩
              case measure => exact meas_q L k hlt
          · -- 3
            obtain ⟨g, ms', hA, hB⟩ := pair_all (B := B) (R := R) (m := m) x ms hle.out.2
            have hA' := Lib.hid hA
            have hB' := Lib.hid hB
            have hgg : (g != g) = false := by simp
            clear hA hB
            have s1 : (wr.alloc (.cells #[.int .u8 (r : Int), .int .u32 x, .int .i64 z] 99)).drew.cell? ⟨wr.heap.size, 1, none⟩ = some (.int .u32 x) := hPd.out.arr.cell (i := 1) (by decide)
            have s2 : (wr.alloc (.cells #[.int .u8 (r : Int), .int .u32 x, .int .i64 z] 99)).drew.cell? ⟨wr.heap.size, 2, none⟩ = some (.int .i64 z) := hPd.out.arr.cell (i := 2) (by decide)
            go_wp2_with fail
            go_region_held3 (fun w' => w'.cell? ⟨wr.heap.size, 1, none⟩ = some (.int .u32 x) ∧ w'.cell? ⟨wr.heap.size, 2, none⟩ = some (.int .i64 z)) (first | exact ⟨s1, s2⟩ | exact ⟨t1, t2⟩ | exact ⟨u1, u2⟩ | go_keep)
              (first
                | (go_at_call 61; refine (hA'.out _ hPd.out.qp.que).mono ?_; rintro e w1 ⟨rfl, hq1, g1⟩; have hP2 := Lib.hid (hPd.out.obj g1 hq1); have t1 : w1.cell? ⟨wr.heap.size, 1, none⟩ = some (.int .u32 x) := hP2.out.arr.cell (i := 1) (by decide); have t2 : w1.cell? ⟨wr.heap.size, 2, none⟩ = some (.int .i64 z) := hP2.out.arr.cell (i := 2) (by decide))
                | (go_at_call 62; refine (hP2.out.step (E := fun e => e = .returned (.int .i64 g)) (hB'.out w1)).mono ?_; rintro e w2 ⟨rfl, hP3⟩; have u1 : w2.cell? ⟨wr.heap.size, 1, none⟩ = some (.int .u32 x) := hP3.arr.cell (i := 1) (by decide); have u2 : w2.cell? ⟨wr.heap.size, 2, none⟩ = some (.int .i64 z) := hP3.arr.cell (i := 2) (by decide)))
            all_goals
              replace hP3 := hP3.qp
              clear s1 s2 t1 t2 u1 u2 hP2 g1 hq1
              have hL64 : Hid (ms'.length ≤ 64) := hP3.le.1
              have hQ3 := hP3.que
              replace hP3 := Lib.hid hP3
              go_wp2_with fail
              refine (owners_ok w2 hQ3).mono ?_; rintro e w3 ⟨A3, k3, rfl, hk3, hM3, g3⟩
              have hL3 := Lib.hid (hP3.out.list g3 hM3)
              have hM3' := Lib.hid hM3
              clear hQ3 g3 hM3 hk3
              go_wp2_with fail
              refine hL3.out.refList.mono ?_; rintro e w4 ⟨u, rfl, hMu, g4⟩
              have hL4 := Lib.hid (hL3.out.keep g4)
              have hM4 := Lib.hid (hM3'.out.keep g4)
              have hMu' := Lib.hid hMu
              clear g4 hMu
              go_wp2_with fail
              refine (same_w hM4.out hMu'.out (Nat.le_trans hL64.out (by decide))).mono ?_; rintro e w5 ⟨rfl, g5⟩
              have hL5 := Lib.hid (hL4.out.keep g5)
              clear g5
              have hcc : ((ms'.count 0 : Int) != (ms'.count 0 : Int)) = false := by simp
              go_wp2_with fail
              refine (left_ok w5 hL5.out.que).mono ?_; rintro e w6 ⟨rfl, n6, hw6⟩
              have hL6 := Lib.hid (hL5.out.keep (w' := w6) (by rw [← hw6]; exact grown_drewN (grown_refl _ _) n6))
              clear hw6
              go_wp2_with fail
              refine (hL6.out.refLeft).mono ?_; rintro e w7 ⟨rfl, rfl⟩
              go_wp2_with fail
              refine (hL6.out.words (by omega) (Nat.le_trans hL64.out (by decide))).mono ?_; rintro e w8 ⟨⟨y, rfl⟩, hP6⟩
              have hP6' := Lib.hid hP6
              clear hP6
              go_wp2_with fail
              go_roundw
              case rel => exact ⟨k + 1, ms', by omega, by go_num, hP6'.out⟩
              case measure => exact meas_q L k hlt
        · have hP' := Lib.hid hP
          obtain rfl : L = k := by omega
          clear hP
          go_wp2_with fail
          refine (hP'.out.apart (by omega)).mono ?_; rintro e w6 ⟨rfl, g6⟩
          go_wp2_with fail
          go_ret
          exact ⟨rfl, g6⟩
end Go.Proofs.YtabkkeeedlnmnaaDoor
