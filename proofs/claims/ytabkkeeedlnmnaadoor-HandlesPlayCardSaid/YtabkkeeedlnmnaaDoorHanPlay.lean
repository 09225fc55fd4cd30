/- HandlesPlay: whatever is done, the table and the reference's answer alike, and all lists lie apart. -/
import Derived.Test.YtabkkeeedlnmnaaDoorHanP2
import Derived.Test.YtabkkeeedlnmnaaDoorRws
namespace Go.Proofs.YtabkkeeedlnmnaaDoor
open Go.RowKit Go.Shelf Tk
set_option linter.unusedVariables false
set_option linter.unusedSimpArgs false
set_option maxRecDepth 100000 in
set_option maxHeartbeats 8000000 in
theorem handlesPlay_walk (mm : Int) (wm : (Lit.int .i64 mm).wf = true) (A1 : Option Addr) (c1 : Nat) (L : Nat) (T : Nat → Nat → Int) (hl1 : L ≤ c1) (w : World)
    (hs1 : RowsA w [.u8, .u32] A1 L T) (hf1 : ∀ i, i < L → ∀ q, q < [IntKind.u8, .u32].length → (Lit.int ([IntKind.u8, .u32].getD q .u8) (T i q)).wf = true) (hb1 : L * 8 ≤ 140737488351232) :
    Calls Tryd.prog 4 #[.int .i64 mm, .slice A1 L c1] w fun e w' => e = .returned (.bool true) ∧ w.grownBy w' none := by
  have hfit : ∀ i, i < L → (0 ≤ T i 0 ∧ T i 0 < 256) ∧ (0 ≤ T i 1 ∧ T i 1 < 4294967296) := fun i hi => ⟨wf_u8 (hf1 i hi 0 (by decide)), wf_u32 (hf1 i hi 1 (by decide))⟩
  replace hfit := Lib.hid hfit
  clear hf1 wm hb1
  by_cases hlen : 300 < L
  · have hd : decide ((300 : Int) < (L : Int)) = true := decide_eq_true (by omega)
    clear hlen hs1
    go_enter Tryd.func4, Tryd.ntmps4
    go_wp2_with fail
    go_ret
    exact ⟨rfl, grown_refl _ _⟩
  · have hL : L ≤ 300 := by omega
    have hd : decide ((300 : Int) < (L : Int)) = false := decide_eq_false (by omega)
    have hK1 := Lib.hid (fun wr (h : w.grownBy wr none) => hs1.kept h)
    clear hlen hs1
    by_cases hm : mm < 1 ∨ 256 < mm
    · replace hm := Lib.hid hm
      go_enter Tryd.func4, Tryd.ntmps4
      go_wp2_with fail
      refine (new_bad mm hm.out _).mono ?_; rintro e w' ⟨rfl, rfl⟩
      go_wp2_with fail
      refine (RefH.new_bad mm hm.out _).mono ?_; rintro e w' ⟨rfl, rfl⟩
      go_wp2_with fail
      go_ret
      exact ⟨rfl, grown_refl _ _⟩
    · obtain ⟨m, rfl⟩ := Int.eq_ofNat_of_zero_le (by omega : 0 ≤ mm)
      have hm1 : Hid (1 ≤ m) := by show _ ≤ _; omega
      have hm2 : Hid (m ≤ 256) := by show _ ≤ _; omega
      clear hm
      go_enter Tryd.func4, Tryd.ntmps4
      go_wp2_with fail
      refine (new_any m hm1.out hm2.out _).mono ?_; rintro e wa ⟨rfl, hQ, hga, hsa⟩
      have hQ' := Lib.hid hQ
      have hga' := Lib.hid hga
      have hsa' := Lib.hid hsa
      clear hQ hga hsa
      go_wp2_with fail
      refine (RefH.new_ok m hm1.out hm2.out _).mono ?_; rintro e wb ⟨R, v, rfl, hR, hgb, hvl⟩
      have hst := Lib.hid (QP.start (w0 := w) 37 (hQ'.out.kept hgb (by simp)) hR (Nat.le_refl _) (r := wa.heap.size) (by have := hsa'.out; omega) hvl (grown_trans hga'.out hgb))
      clear hR hgb hvl
      obtain ⟨B, hB⟩ : ∃ B, w.heap.size = B := ⟨_, rfl⟩
      rw [hB] at hst
      rw [hB]
      clear hB hQ' hga' hsa'
      go_wp2_with fail
      obtain ⟨K, hKk⟩ : ∃ K, wb.heap.size = K := ⟨_, rfl⟩
      rw [hKk] at hst
      rw [hKk]
      clear hKk
      obtain ⟨W, hW⟩ : ∃ W, wb.alloc (.cells #[.int .i64 0, .slice none 0 0, .slice none 0 0, .slice none 0 0, .slice none 0 0, .slice none 0 0, .slice none 0 0, .slice none 0 0, .slice none 0 0] 37) = W := ⟨_, rfl⟩
      rw [hW] at hst
      rw [hW]
      clear hW
      go_loopw [10] (fun i wr => ∃ (k : Nat) (t : Tab), k ≤ L ∧ i = .int .i64 k ∧ Hid t.inn ∧ Hid (QP w wr B R K k t t)) (fun i _ => L - (intOf i).toNat)
      case atStart => exact ⟨0, _, Nat.zero_le _, rfl, tab0_inn hm1.out hm2.out, hst.out⟩
      case round =>
        obtain ⟨k, t, hk, rfl, hin, hP⟩ := hrel
        clear hst
        by_cases hlt : k < L
        · obtain ⟨b, o, rfl, hb, hcs⟩ := (hK1.out _ hP.out.g).at hlt
          have hc := hcs 0 (by decide)
          have hc1 := hcs 1 (by decide)
          obtain ⟨⟨r1, r2⟩, r3, r4⟩ := hfit.out k hlt
          generalize T k 0 = r at *
          generalize T k 1 = x at *
          obtain ⟨r, rfl⟩ := Int.eq_ofNat_of_zero_le r1
          obtain ⟨a, rfl⟩ := Int.eq_ofNat_of_zero_le r3
          have ha : Hid (a < 4294967296) := by show _ < _; omega
          have hr := four r
          have hkI : (k : Int) < (L : Int) := by omega
          clear r1 r3 r4 hcs
          simp only [List.length_cons, List.length_nil, Nat.reduceAdd, Nat.add_zero, List.getD_cons_zero, List.getD_cons_succ] at hc hc1
          have hX := Arr.new wr #[.int .u8 (r : Int), .int .u32 (a : Int)] 50 2 (fun i => if i = 0 then .int .u8 (r : Int) else .int .u32 (a : Int)) rfl (fun i hi => by
            rcases (by omega : i = 0 ∨ i = 1) with rfl | rfl <;> rfl)
          have hP1 := Lib.hid (hP.out.withX _ _ hX)
          clear hP hX
          have hPd : Hid (QPX w (wr.alloc (.cells #[.int .u8 (r : Int), .int .u32 (a : Int)] 50)).drew B R K k wr.heap.size 2 (fun i => if i = 0 then .int .u8 (r : Int) else .int .u32 (a : Int)) t t) := hP1.out.keep (grown_drewN (grown_refl _ _) 1)
          rcases hr with d0 | ⟨d0, d1⟩ | ⟨d0, d1, d2⟩ | ⟨d0, d1, d2⟩
          · -- 0
            obtain ⟨y0, g, t', hin', hA, hB⟩ := pair_make B R t hin.out
            replace hin' := Lib.hid hin'
            have hA' := Lib.hid hA
            have hB' := Lib.hid hB
            have hgg : (g != g) = false := by simp
            have hyy : (y0 != y0) = false := by simp
            clear hA hB hPd
            go_wp2_with fail
            refine (hA'.out _ hP1.out.qp.que).mono ?_; rintro e w1 ⟨rfl, hq1, g1⟩
            have hP2 := Lib.hid (hP1.out.obj g1 hq1)
            clear hq1 g1
            go_wp2_with fail
            refine (hP2.out.step (E := fun e => e = .returned (.tuple #[.int .u32 y0, .int .i64 g])) (hB'.out w1)).mono ?_; rintro e w2 ⟨rfl, hP3x⟩
            have hP3 := hP3x.qp
            clear hP3x
            have hT3 := hP3.que
            replace hP3 := Lib.hid hP3
            go_wp2_with fail
            refine (list_mine t' hin'.out.1.1 hin'.out.1.2.2 B w2 hT3).mono ?_; rintro e w3 ⟨l3, rfl, hM3, g3⟩
            have hL3 := Lib.hid (hP3.out.list g3 hM3)
            have hM3' := Lib.hid hM3
            clear hT3 g3 hM3
            go_wp2_with fail
            refine (hL3.out.refList hin'.out).mono ?_; rintro e w4 ⟨u, rfl, hMu, g4⟩
            have hL4 := Lib.hid (hL3.out.keep g4)
            have hM4 := Lib.hid (hM3'.out.keep g4)
            have hMu' := Lib.hid hMu
            clear g4 hMu
            go_wp2_with fail
            refine (same_w hM4.out hMu'.out (Nat.le_trans (inn_len hin'.out) (by decide))).mono ?_; rintro e w5 ⟨rfl, g5⟩
            have hL5 := Lib.hid (hL4.out.keep g5)
            clear g5
            go_wp2_with fail
            refine (hL5.out.words (by omega) (Nat.le_trans (inn_len hin'.out) (by decide))).mono ?_; rintro e w6 ⟨⟨y, rfl⟩, hP6⟩
            have hP6' := Lib.hid hP6
            clear hP6
            go_wp2_with fail
            go_roundw
            case rel => exact ⟨k + 1, t', by omega, by go_num, hin'.out, hP6'.out⟩
            case measure => exact meas_q L k hlt
          · -- 1
            obtain ⟨y0, g, t', hin', hA, hB⟩ := pair_make B R t hin.out
            replace hin' := Lib.hid hin'
            have hA' := Lib.hid hA
            have hB' := Lib.hid hB
            have hgg : (g != g) = false := by simp
            have hyy : (y0 != y0) = false := by simp
            clear hA hB hPd
            go_wp2_with fail
            refine (hA'.out _ hP1.out.qp.que).mono ?_; rintro e w1 ⟨rfl, hq1, g1⟩
            have hP2 := Lib.hid (hP1.out.obj g1 hq1)
            clear hq1 g1
            go_wp2_with fail
            refine (hP2.out.step (E := fun e => e = .returned (.tuple #[.int .u32 y0, .int .i64 g])) (hB'.out w1)).mono ?_; rintro e w2 ⟨rfl, hP3x⟩
            have hP3 := hP3x.qp
            clear hP3x
            have hT3 := hP3.que
            replace hP3 := Lib.hid hP3
            go_wp2_with fail
            refine (list_mine t' hin'.out.1.1 hin'.out.1.2.2 B w2 hT3).mono ?_; rintro e w3 ⟨l3, rfl, hM3, g3⟩
            have hL3 := Lib.hid (hP3.out.list g3 hM3)
            have hM3' := Lib.hid hM3
            clear hT3 g3 hM3
            go_wp2_with fail
            refine (hL3.out.refList hin'.out).mono ?_; rintro e w4 ⟨u, rfl, hMu, g4⟩
            have hL4 := Lib.hid (hL3.out.keep g4)
            have hM4 := Lib.hid (hM3'.out.keep g4)
            have hMu' := Lib.hid hMu
            clear g4 hMu
            go_wp2_with fail
            refine (same_w hM4.out hMu'.out (Nat.le_trans (inn_len hin'.out) (by decide))).mono ?_; rintro e w5 ⟨rfl, g5⟩
            have hL5 := Lib.hid (hL4.out.keep g5)
            clear g5
            go_wp2_with fail
            refine (hL5.out.words (by omega) (Nat.le_trans (inn_len hin'.out) (by decide))).mono ?_; rintro e w6 ⟨⟨y, rfl⟩, hP6⟩
            have hP6' := Lib.hid hP6
            clear hP6
            go_wp2_with fail
            go_roundw
            case rel => exact ⟨k + 1, t', by omega, by go_num, hin'.out, hP6'.out⟩
            case measure => exact meas_q L k hlt
          · -- 2
            obtain ⟨g, t', hin', hA, hB⟩ := pair_drop B R t hin.out a ha.out
            replace hin' := Lib.hid hin'
            have hA' := Lib.hid hA
            have hB' := Lib.hid hB
            have hgg : (g != g) = false := by simp
            clear hA hB
            have s1 : (wr.alloc (.cells #[.int .u8 (r : Int), .int .u32 (a : Int)] 50)).drew.cell? ⟨wr.heap.size, 1, none⟩ = some (.int .u32 (a : Int)) := hPd.out.arr.cell (i := 1) (by decide)
            go_wp2_with fail
            go_region_held3 (fun w' => w'.cell? ⟨wr.heap.size, 1, none⟩ = some (.int .u32 (a : Int))) (first | exact s1 | exact t1 | exact u1 | go_keep)
              (first
                | (go_at_call 19; refine (hA'.out _ hPd.out.qp.que).mono ?_; rintro e w1 ⟨rfl, hq1, g1⟩; have hP2 := Lib.hid (hPd.out.obj g1 hq1); have t1 : w1.cell? ⟨wr.heap.size, 1, none⟩ = some (.int .u32 (a : Int)) := hP2.out.arr.cell (i := 1) (by decide))
                | (go_at_call 20; refine (hP2.out.step (E := fun e => e = .returned (.int .i64 g)) (hB'.out w1)).mono ?_; rintro e w2 ⟨rfl, hP3x⟩; have u1 : w2.cell? ⟨wr.heap.size, 1, none⟩ = some (.int .u32 (a : Int)) := hP3x.arr.cell (i := 1) (by decide)))
            all_goals
              have hP3 := hP3x.qp
              clear s1 t1 u1 hP2 g1 hq1
              clear hP3x
              have hT3 := hP3.que
              replace hP3 := Lib.hid hP3
              go_wp2_with fail
              refine (list_mine t' hin'.out.1.1 hin'.out.1.2.2 B w2 hT3).mono ?_; rintro e w3 ⟨l3, rfl, hM3, g3⟩
              have hL3 := Lib.hid (hP3.out.list g3 hM3)
              have hM3' := Lib.hid hM3
              clear hT3 g3 hM3
              go_wp2_with fail
              refine (hL3.out.refList hin'.out).mono ?_; rintro e w4 ⟨u, rfl, hMu, g4⟩
              have hL4 := Lib.hid (hL3.out.keep g4)
              have hM4 := Lib.hid (hM3'.out.keep g4)
              have hMu' := Lib.hid hMu
              clear g4 hMu
              go_wp2_with fail
              refine (same_w hM4.out hMu'.out (Nat.le_trans (inn_len hin'.out) (by decide))).mono ?_; rintro e w5 ⟨rfl, g5⟩
              have hL5 := Lib.hid (hL4.out.keep g5)
              clear g5
              go_wp2_with fail
              refine (hL5.out.words (by omega) (Nat.le_trans (inn_len hin'.out) (by decide))).mono ?_; rintro e w6 ⟨⟨y, rfl⟩, hP6⟩
              have hP6' := Lib.hid hP6
              clear hP6
              go_wp2_with fail
              go_roundw
              case rel => exact ⟨k + 1, t', by omega, by go_num, hin'.out, hP6'.out⟩
              case measure => exact meas_q L k hlt
          · -- 3
            obtain ⟨y0, g, hA, hB⟩ := pair_place B R t hin.out a ha.out
            have hA' := Lib.hid hA
            have hB' := Lib.hid hB
            have hgg : (g != g) = false := by simp
            have hyy : (y0 != y0) = false := by simp
            obtain ⟨t', ht'⟩ : ∃ t', t = t' := ⟨_, rfl⟩
            subst ht'
            have hin' := hin
            clear hA hB hPd
            go_wp2_with fail
            refine (hA'.out _ hP1.out.qp.que).mono ?_; rintro e w1 ⟨rfl, hq1, g1⟩
            have hP2 := Lib.hid (hP1.out.obj g1 hq1)
            have hx1 : w1.cell? ⟨wr.heap.size, 1, none⟩ = some (.int .u32 (a : Int)) := hP2.out.arr.cell (i := 1) (by decide)
            clear hq1 g1
            go_wp2_with fail
            refine (hP2.out.step (E := fun e => e = .returned (.tuple #[.int .i64 y0, .int .i64 g])) (hB'.out w1)).mono ?_; rintro e w2 ⟨rfl, hP3x⟩
            have hP3 := hP3x.qp
            clear hx1
            clear hP3x
            have hT3 := hP3.que
            replace hP3 := Lib.hid hP3
            go_wp2_with fail
            refine (list_mine t hin'.out.1.1 hin'.out.1.2.2 B w2 hT3).mono ?_; rintro e w3 ⟨l3, rfl, hM3, g3⟩
            have hL3 := Lib.hid (hP3.out.list g3 hM3)
            have hM3' := Lib.hid hM3
            clear hT3 g3 hM3
            go_wp2_with fail
            refine (hL3.out.refList hin'.out).mono ?_; rintro e w4 ⟨u, rfl, hMu, g4⟩
            have hL4 := Lib.hid (hL3.out.keep g4)
            have hM4 := Lib.hid (hM3'.out.keep g4)
            have hMu' := Lib.hid hMu
            clear g4 hMu
            go_wp2_with fail
            refine (same_w hM4.out hMu'.out (Nat.le_trans (inn_len hin'.out) (by decide))).mono ?_; rintro e w5 ⟨rfl, g5⟩
            have hL5 := Lib.hid (hL4.out.keep g5)
            clear g5
            go_wp2_with fail
            refine (hL5.out.words (by omega) (Nat.le_trans (inn_len hin'.out) (by decide))).mono ?_; rintro e w6 ⟨⟨y, rfl⟩, hP6⟩
            have hP6' := Lib.hid hP6
            clear hP6
            go_wp2_with fail
            go_roundw
            case rel => exact ⟨k + 1, t, by omega, by go_num, hin'.out, hP6'.out⟩
            case measure => exact meas_q L k hlt
        · have hP' := hP
          obtain rfl : L = k := by omega
          clear hP
          go_wp2_with fail
          refine (hP'.out.apart (by omega)).mono ?_; rintro e w6 ⟨rfl, g6⟩
          go_wp2_with fail
          go_ret
          exact ⟨rfl, g6⟩
end Go.Proofs.YtabkkeeedlnmnaaDoor
