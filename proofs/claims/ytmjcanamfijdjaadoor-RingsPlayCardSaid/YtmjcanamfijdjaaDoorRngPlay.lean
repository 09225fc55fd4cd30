/- RingsPlay: whatever is done, the ring and the reference's answer alike, and all lists lie apart. -/
import Derived.Test.YtmjcanamfijdjaaDoorRngP
import Derived.Test.YtmjcanamfijdjaaDoorRngRef4
import Derived.Test.YtmjcanamfijdjaaDoorRws
namespace Go.Proofs.YtmjcanamfijdjaaDoor
open Go.RowKit Go.Shelf Tk
set_option linter.unusedVariables false
set_option linter.unusedSimpArgs false
theorem QP.objList {w0 w : World} {B M R K m k : Nat} {msA msB : List Int} (h : QP w0 w B M R K m k msA msB) : Calls Tryd.prog 16 #[.pointer (some ⟨B, 0, none⟩)] w fun e w' => ∃ u, e = .returned u ∧ Mine w' w.heap.size 3 .i64 u msA ∧ w.grownBy w' none := by
  obtain ⟨f, c, hq⟩ := h.que
  exact (list_ok hq).mono fun e w' ⟨A, k, he, _, hM, hg⟩ => ⟨_, he, hM, hg⟩
theorem same_i {w : World} {b b' : Nat} {u v : Value} {xs : List Int} (hu : Mine w b 3 .i64 u xs) (hv : Mine w b' 3 .i64 v xs) (hm : xs.length ≤ 1000000) :
    Calls Tryd.prog 17 #[u, v] w fun e w' => e = .returned (.bool true) ∧ w.grownBy w' none := by
  obtain ⟨A, c, rfl, hc, -⟩ := hu.form
  obtain ⟨B, d, rfl, hd, -⟩ := hv.form
  exact (sameInts_any A B c d _ _ _ _ xs xs w hc hd hm hm hu.sl hv.sl).mono fun e w' ⟨he, n, hw⟩ => ⟨by rw [he, decide_eq_true rfl], by rw [← hw]; exact grown_drewN (grown_refl _ _) n⟩
theorem meas_q (n k : Nat) (h : k < n) : n - (intOf (.int .i64 ((k : Int) + 1))).toNat < n - (intOf (.int .i64 (k : Int))).toNat := by simp [intOf]; omega
theorem six (r : Nat) : ((r : Int) % 6 == 0) = true ∨ (((r : Int) % 6 == 0) = false ∧ ((r : Int) % 6 == 1) = true) ∨ (((r : Int) % 6 == 0) = false ∧ ((r : Int) % 6 == 1) = false ∧ ((r : Int) % 6 == 2) = true) ∨
    (((r : Int) % 6 == 0) = false ∧ ((r : Int) % 6 == 1) = false ∧ ((r : Int) % 6 == 2) = false ∧ ((r : Int) % 6 == 3) = true) ∨
    (((r : Int) % 6 == 0) = false ∧ ((r : Int) % 6 == 1) = false ∧ ((r : Int) % 6 == 2) = false ∧ ((r : Int) % 6 == 3) = false ∧ ((r : Int) % 6 == 4) = true) ∨
    (((r : Int) % 6 == 0) = false ∧ ((r : Int) % 6 == 1) = false ∧ ((r : Int) % 6 == 2) = false ∧ ((r : Int) % 6 == 3) = false ∧ ((r : Int) % 6 == 4) = false) := by
  simp only [beq_iff_eq, beq_eq_false_iff_ne]; omega
set_option maxRecDepth 100000 in
set_option maxHeartbeats 8000000 in
theorem ringsPlay_walk (mm : Int) (wm : (Lit.int .i64 mm).wf = true) (A1 : Option Addr) (c1 : Nat) (L : Nat) (T : Nat → Nat → Int) (hl1 : L ≤ c1) (w : World)
    (hs1 : RowsA w [.u8, .i64] A1 L T) (hf1 : ∀ i, i < L → ∀ q, q < [IntKind.u8, .i64].length → (Lit.int ([IntKind.u8, .i64].getD q .u8) (T i q)).wf = true) (hb1 : L * 16 ≤ 140737488351232) :
    Calls Tryd.prog 3 #[.int .i64 mm, .slice A1 L c1] w fun e w' => e = .returned (.bool true) ∧ w.grownBy w' none := by
  have hfit : ∀ i, i < L → 0 ≤ T i 0 ∧ T i 0 < 256 := fun i hi => wf_u8 (hf1 i hi 0 (by decide))
  replace hfit := Lib.hid hfit
  clear hf1 wm hb1
  by_cases hlen : 300 < L
  · have hd : decide ((300 : Int) < (L : Int)) = true := decide_eq_true (by omega)
    clear hlen hs1
    go_enter Tryd.func3, Tryd.ntmps3
    go_wp2_with fail
    go_ret
    exact ⟨rfl, grown_refl _ _⟩
  · have hL : L ≤ 300 := by omega
    have hd : decide ((300 : Int) < (L : Int)) = false := decide_eq_false (by omega)
    have hK1 := Lib.hid (fun wr (h : w.grownBy wr none) => hs1.kept h)
    clear hlen hs1
    by_cases hm : mm < 1 ∨ 1024 < mm
    · replace hm := Lib.hid hm
      go_enter Tryd.func3, Tryd.ntmps3
      go_wp2_with fail
      refine (new_bad mm hm.out _).mono ?_; rintro e w' ⟨rfl, rfl⟩
      go_wp2_with fail
      refine (RefG.new_bad mm hm.out _).mono ?_; rintro e w' ⟨rfl, rfl⟩
      go_wp2_with fail
      go_ret
      exact ⟨rfl, grown_refl _ _⟩
    · obtain ⟨m, rfl⟩ := Int.eq_ofNat_of_zero_le (by omega : 0 ≤ mm)
      have hm1 : Hid (1 ≤ m) := by show _ ≤ _; omega
      have hm2 : Hid (m ≤ 1024) := by show _ ≤ _; omega
      clear hm
      go_enter Tryd.func3, Tryd.ntmps3
      go_wp2_with fail
      refine (new_ok m (m : Int) rfl hm1.out hm2.out _).mono ?_; rintro e wa ⟨B, M, rfl, hQ, hMa, hBa, hga⟩
      have hQ' := Lib.hid hQ
      have hga' := Lib.hid hga
      have hBM : Hid (∀ b, BM B M b → w.heap.size ≤ b) := by
        rintro b (rfl | rfl)
        · exact hBa
        · exact hMa
      clear hQ hga hMa hBa
      go_wp2_with fail
      refine (RefG.new_ok m hm1.out hm2.out _).mono ?_; rintro e wb ⟨rfl, hR, hgb, hbs⟩
      have hst := Lib.hid (QP.start (w0 := w) (r := wa.heap.size) 39 (hQ'.out.keep hgb) hR (fun b hb => ⟨hBM.out b hb, hQ'.out.lt b hb⟩) (by
        rintro b (rfl | e)
        · exact Nat.le_refl _
        · cases e) hga'.out.size (grown_trans hga'.out hgb))
      obtain ⟨R, hRR⟩ : ∃ R, wa.heap.size = R := ⟨_, rfl⟩
      rw [hRR] at hst
      rw [hRR]
      clear hR hgb hbs hQ' hga' hBM hRR
      go_wp2_with fail
      obtain ⟨K, hKk⟩ : ∃ K, wb.heap.size = K := ⟨_, rfl⟩
      rw [hKk] at hst
      rw [hKk]
      clear hKk
      obtain ⟨W, hW⟩ : ∃ W, wb.alloc (.cells #[.int .i64 0, .slice none 0 0, .slice none 0 0, .slice none 0 0, .slice none 0 0, .slice none 0 0, .slice none 0 0, .slice none 0 0, .slice none 0 0] 39) = W := ⟨_, rfl⟩
      rw [hW] at hst
      rw [hW]
      clear hW
      go_loopw [10] (fun i wr => ∃ (k : Nat) (ms : List Int), k ≤ L ∧ i = .int .i64 k ∧ Hid (ms.length ≤ k ∧ ms.length ≤ m) ∧ Hid (QP w wr B M R K m k ms ms)) (fun i _ => L - (intOf i).toNat)
      case atStart => exact ⟨0, [], Nat.zero_le _, rfl, ⟨Nat.le_refl _, Nat.zero_le _⟩, hst.out⟩
      case round =>
        obtain ⟨k, ms, hk, rfl, hle, hP⟩ := hrel
        clear hst
        by_cases hlt : k < L
        · obtain ⟨b, o, rfl, hb, hcs⟩ := (hK1.out _ hP.out.g).at hlt
          have hc := hcs 0 (by decide)
          have hc1 := hcs 1 (by decide)
          obtain ⟨r1, r2⟩ := hfit.out k hlt
          generalize T k 0 = r at *
          generalize hx : T k 1 = x at *
          obtain ⟨r, rfl⟩ := Int.eq_ofNat_of_zero_le r1
          have hr := six r
          have hkI : (k : Int) < (L : Int) := by omega
          clear r1 hcs hx
          simp only [List.length_cons, List.length_nil, Nat.reduceAdd, Nat.add_zero, List.getD_cons_zero, List.getD_cons_succ] at hc hc1
          have hX := Arr.new wr #[.int .u8 (r : Int), .int .i64 x] 41 2 (fun i => if i = 0 then .int .u8 (r : Int) else .int .i64 x) rfl (fun i hi => by
            rcases (by omega : i = 0 ∨ i = 1) with rfl | rfl <;> rfl)
          have hP1 := Lib.hid (hP.out.withX _ _ hX)
          clear hP hX
          rcases hr with d0 | ⟨d0, d1⟩ | ⟨d0, d1, d2⟩ | ⟨d0, d1, d2, d3⟩ | ⟨d0, d1, d2, d3, d4⟩ | ⟨d0, d1, d2, d3, d4⟩
          · -- 0
            obtain ⟨g, ms', hl1', hl2', hA, hB⟩ := pair_put B M R m hm2.out x ms hle.out.2
            have hle' : Hid (ms'.length ≤ k + 1 ∧ ms'.length ≤ m) := by have := hle.out; show _ ∧ _; omega
            have hA' := Lib.hid hA
            have hB' := Lib.hid hB
            have hgg : (g != g) = false := by simp
            clear hA hB hl1' hl2'
            go_wp2_with fail
            refine (hP1.out.obj (E := fun e => e = .returned (.int .i64 g)) (hA'.out _)).mono ?_; rintro e w1 ⟨rfl, hP2⟩
            have hP2' := Lib.hid hP2
            have hx1 : w1.cell? ⟨wr.heap.size, 1, none⟩ = some (.int .i64 x) := hP2'.out.arr.cell (i := 1) (by decide)
            clear hP2
            go_wp2_with fail
            refine (hP2'.out.step (E := fun e => e = .returned (.int .i64 g)) (hB'.out w1)).mono ?_; rintro e w2 ⟨rfl, hP3x⟩
            clear hx1
            have hP3 := Lib.hid hP3x.qp
            clear hP3x
            go_wp2_with fail
            refine (hP3.out.objList).mono ?_; rintro e w3 ⟨l3, rfl, hM3, g3⟩
            have hL3 := Lib.hid (hP3.out.list g3 hM3)
            have hM3' := Lib.hid hM3
            clear g3 hM3
            go_wp2_with fail
            refine (hL3.out.refList (by have := hle'.out; omega)).mono ?_; rintro e w4 ⟨u, rfl, hMu, g4⟩
            have hL4 := Lib.hid (hL3.out.keep g4)
            have hM4 := Lib.hid (hM3'.out.keep g4)
            have hMu' := Lib.hid hMu
            clear g4 hMu
            go_wp2_with fail
            refine (same_i hM4.out hMu'.out (by have := hle'.out; omega)).mono ?_; rintro e w5 ⟨rfl, g5⟩
            have hL5 := Lib.hid (hL4.out.keep g5)
            clear g5
            go_wp2_with fail
            refine (hL5.out.ints (by omega) (by have := hle'.out; omega)).mono ?_; rintro e w6 ⟨⟨y, rfl⟩, hP6⟩
            have hP6' := Lib.hid hP6
            clear hP6
            go_wp2_with fail
            go_roundw
            case rel => exact ⟨k + 1, ms', by omega, by go_num, hle', hP6'.out⟩
            case measure => exact meas_q L k hlt
          · -- 1
            obtain ⟨g, ms', hl1', hl2', hA, hB⟩ := pair_put B M R m hm2.out x ms hle.out.2
            have hle' : Hid (ms'.length ≤ k + 1 ∧ ms'.length ≤ m) := by have := hle.out; show _ ∧ _; omega
            have hA' := Lib.hid hA
            have hB' := Lib.hid hB
            have hgg : (g != g) = false := by simp
            clear hA hB hl1' hl2'
            go_wp2_with fail
            refine (hP1.out.obj (E := fun e => e = .returned (.int .i64 g)) (hA'.out _)).mono ?_; rintro e w1 ⟨rfl, hP2⟩
            have hP2' := Lib.hid hP2
            have hx1 : w1.cell? ⟨wr.heap.size, 1, none⟩ = some (.int .i64 x) := hP2'.out.arr.cell (i := 1) (by decide)
            clear hP2
            go_wp2_with fail
            refine (hP2'.out.step (E := fun e => e = .returned (.int .i64 g)) (hB'.out w1)).mono ?_; rintro e w2 ⟨rfl, hP3x⟩
            clear hx1
            have hP3 := Lib.hid hP3x.qp
            clear hP3x
            go_wp2_with fail
            refine (hP3.out.objList).mono ?_; rintro e w3 ⟨l3, rfl, hM3, g3⟩
            have hL3 := Lib.hid (hP3.out.list g3 hM3)
            have hM3' := Lib.hid hM3
            clear g3 hM3
            go_wp2_with fail
            refine (hL3.out.refList (by have := hle'.out; omega)).mono ?_; rintro e w4 ⟨u, rfl, hMu, g4⟩
            have hL4 := Lib.hid (hL3.out.keep g4)
            have hM4 := Lib.hid (hM3'.out.keep g4)
            have hMu' := Lib.hid hMu
            clear g4 hMu
            go_wp2_with fail
            refine (same_i hM4.out hMu'.out (by have := hle'.out; omega)).mono ?_; rintro e w5 ⟨rfl, g5⟩
            have hL5 := Lib.hid (hL4.out.keep g5)
            clear g5
            go_wp2_with fail
            refine (hL5.out.ints (by omega) (by have := hle'.out; omega)).mono ?_; rintro e w6 ⟨⟨y, rfl⟩, hP6⟩
            have hP6' := Lib.hid hP6
            clear hP6
            go_wp2_with fail
            go_roundw
            case rel => exact ⟨k + 1, ms', by omega, by go_num, hle', hP6'.out⟩
            case measure => exact meas_q L k hlt
          · -- 2
            obtain ⟨g, ms', hl1', hl2', hA, hB⟩ := pair_push B M R m hm2.out x ms hle.out.2
            have hle' : Hid (ms'.length ≤ k + 1 ∧ ms'.length ≤ m) := by have := hle.out; show _ ∧ _; omega
            have hA' := Lib.hid hA
            have hB' := Lib.hid hB
            have hgg : (g != g) = false := by simp
            clear hA hB hl1' hl2'
            go_wp2_with fail
            refine (hP1.out.obj (E := fun e => e = .returned (.int .i64 g)) (hA'.out _)).mono ?_; rintro e w1 ⟨rfl, hP2⟩
            have hP2' := Lib.hid hP2
            have hx1 : w1.cell? ⟨wr.heap.size, 1, none⟩ = some (.int .i64 x) := hP2'.out.arr.cell (i := 1) (by decide)
            clear hP2
            go_wp2_with fail
            refine (hP2'.out.step (E := fun e => e = .returned (.int .i64 g)) (hB'.out w1)).mono ?_; rintro e w2 ⟨rfl, hP3x⟩
            clear hx1
            have hP3 := Lib.hid hP3x.qp
            clear hP3x
            go_wp2_with fail
            refine (hP3.out.objList).mono ?_; rintro e w3 ⟨l3, rfl, hM3, g3⟩
            have hL3 := Lib.hid (hP3.out.list g3 hM3)
            have hM3' := Lib.hid hM3
            clear g3 hM3
            go_wp2_with fail
            refine (hL3.out.refList (by have := hle'.out; omega)).mono ?_; rintro e w4 ⟨u, rfl, hMu, g4⟩
            have hL4 := Lib.hid (hL3.out.keep g4)
            have hM4 := Lib.hid (hM3'.out.keep g4)
            have hMu' := Lib.hid hMu
            clear g4 hMu
            go_wp2_with fail
            refine (same_i hM4.out hMu'.out (by have := hle'.out; omega)).mono ?_; rintro e w5 ⟨rfl, g5⟩
            have hL5 := Lib.hid (hL4.out.keep g5)
            clear g5
            go_wp2_with fail
            refine (hL5.out.ints (by omega) (by have := hle'.out; omega)).mono ?_; rintro e w6 ⟨⟨y, rfl⟩, hP6⟩
            have hP6' := Lib.hid hP6
            clear hP6
            go_wp2_with fail
            go_roundw
            case rel => exact ⟨k + 1, ms', by omega, by go_num, hle', hP6'.out⟩
            case measure => exact meas_q L k hlt
          · -- 3
            obtain ⟨y0, g, ms', hl1', hA, hB⟩ := pair_take B M R m ms hle.out.2 hm2.out
            have hle' : Hid (ms'.length ≤ k + 1 ∧ ms'.length ≤ m) := by have := hle.out; show _ ∧ _; omega
            have hA' := Lib.hid hA
            have hB' := Lib.hid hB
            have hgg : (g != g) = false := by simp
            have hyy : (y0 != y0) = false := by simp
            clear hA hB hl1' 
            go_wp2_with fail
            refine (hP1.out.obj (E := fun e => e = .returned (.tuple #[.int .i64 y0, .int .i64 g])) (hA'.out _)).mono ?_; rintro e w1 ⟨rfl, hP2⟩
            have hP2' := Lib.hid hP2
            clear hP2
            go_wp2_with fail
            refine (hP2'.out.step (E := fun e => e = .returned (.tuple #[.int .i64 y0, .int .i64 g])) (hB'.out w1)).mono ?_; rintro e w2 ⟨rfl, hP3x⟩
            have hP3 := Lib.hid hP3x.qp
            clear hP3x
            go_wp2_with fail
            refine (hP3.out.objList).mono ?_; rintro e w3 ⟨l3, rfl, hM3, g3⟩
            have hL3 := Lib.hid (hP3.out.list g3 hM3)
            have hM3' := Lib.hid hM3
            clear g3 hM3
            go_wp2_with fail
            refine (hL3.out.refList (by have := hle'.out; omega)).mono ?_; rintro e w4 ⟨u, rfl, hMu, g4⟩
            have hL4 := Lib.hid (hL3.out.keep g4)
            have hM4 := Lib.hid (hM3'.out.keep g4)
            have hMu' := Lib.hid hMu
            clear g4 hMu
            go_wp2_with fail
            refine (same_i hM4.out hMu'.out (by have := hle'.out; omega)).mono ?_; rintro e w5 ⟨rfl, g5⟩
            have hL5 := Lib.hid (hL4.out.keep g5)
            clear g5
            go_wp2_with fail
            refine (hL5.out.ints (by omega) (by have := hle'.out; omega)).mono ?_; rintro e w6 ⟨⟨y, rfl⟩, hP6⟩
            have hP6' := Lib.hid hP6
            clear hP6
            go_wp2_with fail
            go_roundw
            case rel => exact ⟨k + 1, ms', by omega, by go_num, hle', hP6'.out⟩
            case measure => exact meas_q L k hlt
          · -- 4
            obtain ⟨g, ms', hl1', hA, hB⟩ := pair_remove B M R m x ms (by have := hle.out; omega)
            have hle' : Hid (ms'.length ≤ k + 1 ∧ ms'.length ≤ m) := by have := hle.out; show _ ∧ _; omega
            have hA' := Lib.hid hA
            have hB' := Lib.hid hB
            have hgg : (g != g) = false := by simp
            clear hA hB hl1' 
            go_wp2_with fail
            refine (hP1.out.obj (E := fun e => e = .returned (.int .i64 g)) (hA'.out _)).mono ?_; rintro e w1 ⟨rfl, hP2⟩
            have hP2' := Lib.hid hP2
            have hx1 : w1.cell? ⟨wr.heap.size, 1, none⟩ = some (.int .i64 x) := hP2'.out.arr.cell (i := 1) (by decide)
            clear hP2
            go_wp2_with fail
            refine (hP2'.out.step (E := fun e => e = .returned (.int .i64 g)) (hB'.out w1)).mono ?_; rintro e w2 ⟨rfl, hP3x⟩
            clear hx1
            have hP3 := Lib.hid hP3x.qp
            clear hP3x
            go_wp2_with fail
            refine (hP3.out.objList).mono ?_; rintro e w3 ⟨l3, rfl, hM3, g3⟩
            have hL3 := Lib.hid (hP3.out.list g3 hM3)
            have hM3' := Lib.hid hM3
            clear g3 hM3
            go_wp2_with fail
            refine (hL3.out.refList (by have := hle'.out; omega)).mono ?_; rintro e w4 ⟨u, rfl, hMu, g4⟩
            have hL4 := Lib.hid (hL3.out.keep g4)
            have hM4 := Lib.hid (hM3'.out.keep g4)
            have hMu' := Lib.hid hMu
            clear g4 hMu
            go_wp2_with fail
            refine (same_i hM4.out hMu'.out (by have := hle'.out; omega)).mono ?_; rintro e w5 ⟨rfl, g5⟩
            have hL5 := Lib.hid (hL4.out.keep g5)
            clear g5
            go_wp2_with fail
            refine (hL5.out.ints (by omega) (by have := hle'.out; omega)).mono ?_; rintro e w6 ⟨⟨y, rfl⟩, hP6⟩
            have hP6' := Lib.hid hP6
            clear hP6
            go_wp2_with fail
            go_roundw
            case rel => exact ⟨k + 1, ms', by omega, by go_num, hle', hP6'.out⟩
            case measure => exact meas_q L k hlt
          · -- 5
            obtain ⟨g, ms', hl1', hA, hB⟩ := pair_turn B M R m ms hle.out.2 hm2.out
            have hle' : Hid (ms'.length ≤ k + 1 ∧ ms'.length ≤ m) := by have := hle.out; show _ ∧ _; omega
            have hA' := Lib.hid hA
            have hB' := Lib.hid hB
            have hgg : (g != g) = false := by simp
            clear hA hB hl1' 
            go_wp2_with fail
            refine (hP1.out.obj (E := fun e => e = .returned (.int .i64 g)) (hA'.out _)).mono ?_; rintro e w1 ⟨rfl, hP2⟩
            have hP2' := Lib.hid hP2
            clear hP2
            go_wp2_with fail
            refine (hP2'.out.step (E := fun e => e = .returned (.int .i64 g)) (hB'.out w1)).mono ?_; rintro e w2 ⟨rfl, hP3x⟩
            have hP3 := Lib.hid hP3x.qp
            clear hP3x
            go_wp2_with fail
            refine (hP3.out.objList).mono ?_; rintro e w3 ⟨l3, rfl, hM3, g3⟩
            have hL3 := Lib.hid (hP3.out.list g3 hM3)
            have hM3' := Lib.hid hM3
            clear g3 hM3
            go_wp2_with fail
            refine (hL3.out.refList (by have := hle'.out; omega)).mono ?_; rintro e w4 ⟨u, rfl, hMu, g4⟩
            have hL4 := Lib.hid (hL3.out.keep g4)
            have hM4 := Lib.hid (hM3'.out.keep g4)
            have hMu' := Lib.hid hMu
            clear g4 hMu
            go_wp2_with fail
            refine (same_i hM4.out hMu'.out (by have := hle'.out; omega)).mono ?_; rintro e w5 ⟨rfl, g5⟩
            have hL5 := Lib.hid (hL4.out.keep g5)
            clear g5
            go_wp2_with fail
            refine (hL5.out.ints (by omega) (by have := hle'.out; omega)).mono ?_; rintro e w6 ⟨⟨y, rfl⟩, hP6⟩
            have hP6' := Lib.hid hP6
            clear hP6
            go_wp2_with fail
            go_roundw
            case rel => exact ⟨k + 1, ms', by omega, by go_num, hle', hP6'.out⟩
            case measure => exact meas_q L k hlt
        · have hP' := hP
          obtain rfl : L = k := by omega
          clear hP
          go_wp2_with fail
          refine (hP'.out.apart (by omega)).mono ?_; rintro e w6 ⟨rfl, g6⟩
          go_wp2_with fail
          go_ret
          exact ⟨rfl, g6⟩
end Go.Proofs.YtmjcanamfijdjaaDoor
