/- WaitsPlay: whatever is done, the queue and the reference's answer alike, and all lists lie apart. -/
import Derived.Test.YtiakbgdeanllnaaDoorWtP2
import Derived.Test.YtiakbgdeanllnaaDoorWtA
import Derived.Test.YtiakbgdeanllnaaDoorRws
namespace Go.Proofs.YtiakbgdeanllnaaDoor
open Go.RowKit Go.Shelf Tk
set_option linter.unusedVariables false
set_option linter.unusedSimpArgs false
theorem same_l {w : World} {b' : Nat} {u v : Value} {xs : List Int} (hu : Lg w 3 .i64 u xs) (hv : Mine w b' 3 .i64 v xs) (hm : xs.length ≤ 1000000) :
    Calls Tryd.prog 16 #[u, v] w fun e w' => e = .returned (.bool true) ∧ w.grownBy w' none := by
  obtain ⟨A, c, rfl, hc, hs⟩ := hu.sl
  obtain ⟨B, d, rfl, hd, -⟩ := hv.form
  exact (sameInts_any A B c d _ _ _ _ xs xs w hc hd hm hm hs hv.sl).mono fun e w' ⟨he, n, hw⟩ => ⟨by rw [he, decide_eq_true rfl], by rw [← hw]; exact grown_drewN (grown_refl _ _) n⟩
theorem meas_q (n k : Nat) (h : k < n) : n - (intOf (.int .i64 ((k : Int) + 1))).toNat < n - (intOf (.int .i64 (k : Int))).toNat := by simp [intOf]; omega
theorem three (r : Nat) : ((r : Int) % 4 == 2) = true ∨ (((r : Int) % 4 == 2) = false ∧ ((r : Int) % 4 == 3) = true) ∨ (((r : Int) % 4 == 2) = false ∧ ((r : Int) % 4 == 3) = false) := by
  simp only [beq_iff_eq, beq_eq_false_iff_ne]; omega
set_option maxRecDepth 100000 in
set_option maxHeartbeats 8000000 in
theorem waitsPlay_walk (A1 : Option Addr) (c1 : Nat) (L : Nat) (T : Nat → Nat → Int) (hl1 : L ≤ c1) (w : World)
    (hs1 : RowsA w [.u8, .i64, .i64] A1 L T) (hf1 : ∀ i, i < L → ∀ q, q < [IntKind.u8, .i64, .i64].length → (Lit.int ([IntKind.u8, .i64, .i64].getD q .u8) (T i q)).wf = true) (hb1 : L * 24 ≤ 140737488351232) :
    Calls Tryd.prog 3 #[.slice A1 L c1] w fun e w' => e = .returned (.bool true) ∧ w.grownBy w' none := by
  have hfit : ∀ i, i < L → 0 ≤ T i 0 ∧ T i 0 < 256 := fun i hi => wf_u8 (hf1 i hi 0 (by decide))
  replace hfit := Lib.hid hfit
  clear hf1 hb1
  by_cases hlen : 300 < L
  · have hd : decide ((300 : Int) < (L : Int)) = true := decide_eq_true (by omega)
    clear hlen hs1
    go_enter Tryd.func3, Tryd.ntmps3
    go_wp2_with fail
    refine (lives_any _).mono ?_; rintro e wd ⟨rfl, hg⟩
    go_wp2_with fail
    go_ret
    exact ⟨rfl, hg⟩
  · have hL : L ≤ 300 := by omega
    have hd : decide ((300 : Int) < (L : Int)) = false := decide_eq_false (by omega)
    have hK1 := Lib.hid (fun wr (h : w.grownBy wr none) => hs1.kept h)
    clear hlen hs1
    go_enter Tryd.func3, Tryd.ntmps3
    go_wp2_with fail
    refine (new_ok _).mono ?_; rintro e wa ⟨hdn, Q, rfl, hQ, hga, hha, hQa⟩
    have hQ' := Lib.hid hQ
    have hga' := Lib.hid hga
    have hBM : Hid (∀ b, OwnW Q hdn [] b → w.heap.size ≤ b) := by
      rintro b (rfl | e)
      · exact hQa
      · simp [Blks] at e; rw [e]; exact hha
    clear hQ hga hha hQa
    go_wp2_with fail
    refine (RefT.new_ok _).mono ?_; rintro e wb ⟨rfl, hR, hgb, hbs⟩
    have hst := Lib.hid (QP.start (w0 := w) (r := wa.heap.size) 37 (hQ'.out.keep hgb) rfl hR (fun b hb => ⟨hBM.out b hb, hQ'.out.lt b hb⟩) (by
      rintro b (rfl | e)
      · exact Nat.le_refl _
      · cases e) hga'.out.size (grown_trans hga'.out hgb))
    obtain ⟨R, hRR⟩ : ∃ R, wa.heap.size = R := ⟨_, rfl⟩
    rw [hRR] at hst
    rw [hRR]
    clear hR hgb hbs hQ' hga' hBM hRR
    go_wp2_with fail
    obtain ⟨K, hKk⟩ : ∃ K, wb.heap.size = K := ⟨_, rfl⟩
    rw [hKk] at hst
    rw [hKk]
    clear hKk
    obtain ⟨W, hW⟩ : ∃ W, wb.alloc (.cells #[.int .i64 0, .slice none 0 0, .slice none 0 0, .slice none 0 0, .slice none 0 0, .slice none 0 0, .slice none 0 0, .slice none 0 0, .slice none 0 0] 37) = W := ⟨_, rfl⟩
    rw [hW] at hst
    rw [hW]
    clear hW
    go_loopw [6] (fun i wr => ∃ (k : Nat) (ns : List (Int × Int)), k ≤ L ∧ i = .int .i64 k ∧ Hid (ns.length ≤ k) ∧ Hid ((ns.map Prod.fst).Nodup ∧ ∀ p ∈ ns, 0 ≤ p.1) ∧ Hid (QP w wr Q R K k ns ns)) (fun i _ => L - (intOf i).toNat)
    case atStart => exact ⟨0, [], Nat.zero_le _, rfl, Nat.le_refl _, ⟨List.nodup_nil, fun p hp => by cases hp⟩, hst.out⟩
    case round =>
      obtain ⟨k, ns, hk, rfl, hle, hns, hP⟩ := hrel
      clear hst
      by_cases hlt : k < L
      · obtain ⟨b, o, rfl, hb, hcs⟩ := (hK1.out _ hP.out.g).at hlt
        have hc := hcs 0 (by decide)
        have hc1 := hcs 1 (by decide)
        have hc2 := hcs 2 (by decide)
        obtain ⟨r1, r2⟩ := hfit.out k hlt
        generalize T k 0 = r at *
        generalize hx : T k 1 = x at *
        generalize hz : T k 2 = z at *
        obtain ⟨r, rfl⟩ := Int.eq_ofNat_of_zero_le r1
        have hr := three r
        have hkI : (k : Int) < (L : Int) := by omega
        clear r1 hcs hx hz
        simp only [List.length_cons, List.length_nil, Nat.reduceAdd, Nat.add_zero, List.getD_cons_zero, List.getD_cons_succ] at hc hc1 hc2
        have hX := Arr.new wr #[.int .u8 (r : Int), .int .i64 x, .int .i64 z] 39 3 (fun i => if i = 0 then .int .u8 (r : Int) else if i = 1 then .int .i64 x else .int .i64 z) rfl (fun i hi => by
          rcases (by omega : i = 0 ∨ i = 1 ∨ i = 2) with rfl | rfl | rfl <;> rfl)
        have hP1 := Lib.hid (hP.out.withX _ _ hX)
        clear hP hX
        rcases hr with d0 | ⟨d0, d1⟩ | ⟨d0, d1⟩
        · -- 0
          obtain ⟨g, ns', hnd', hl1', hpp', hA, hB⟩ := pair_remove Q R x ns hns.out.1 hns.out.2 (by have := hle.out; omega)
          have hle' : Hid (ns'.length ≤ k + 1) := by have := hle.out; show _ ≤ _; omega
          replace hnd' := Lib.hid hnd'
          replace hpp' := Lib.hid hpp'
          have hA' := Lib.hid hA
          have hB' := Lib.hid hB
          have hgg : (g != g) = false := by simp
          clear hA hB hl1'
          go_wp2_with fail
          refine (hP1.out.obj (E := fun e => e = .returned (.int .i64 g)) hA'.out).mono ?_; rintro e w1 ⟨rfl, hP2⟩
          have hP2' := Lib.hid hP2
          have hx1 : w1.cell? ⟨wr.heap.size, 1, none⟩ = some (.int .i64 x) := hP2'.out.arr.cell (i := 1) (by decide)
          have hx2 : w1.cell? ⟨wr.heap.size, 2, none⟩ = some (.int .i64 z) := hP2'.out.arr.cell (i := 2) (by decide)
          clear hP2
          go_wp2_with fail
          refine (hP2'.out.step (E := fun e => e = .returned (.int .i64 g)) hB'.out).mono ?_; rintro e w2 ⟨rfl, hP3x⟩
          clear hx1 hx2
          have hP3 := Lib.hid hP3x.qp
          clear hP3x
          go_wp2_with fail
          refine (hP3.out.objList (by have := hle'.out; omega)).mono ?_; rintro e w3 ⟨l3, rfl, hM3, g3⟩
          have hL3 := Lib.hid (hP3.out.list g3 hM3)
          have hM3' := Lib.hid hM3.1
          clear g3 hM3
          go_wp2_with fail
          refine (hL3.out.objFirst).mono ?_; rintro e w3b ⟨rfl, rfl⟩
          go_wp2_with fail
          refine (hL3.out.refFirst (by have := hle'.out; omega)).mono ?_; rintro e w3c ⟨rfl, rfl⟩
          generalize (fstV ns').1 = f1
          generalize (fstV ns').2 = f2
          have hff : (f1 != f1) = false := by simp
          have hfb : (f2 != f2) = false := by simp
          go_wp2_with fail
          refine (hL3.out.refList (by have := hle'.out; omega)).mono ?_; rintro e w4 ⟨u, rfl, hMu, g4⟩
          have hL4 := Lib.hid (hL3.out.keep g4)
          have hM4 := Lib.hid (hM3'.out.keep g4)
          have hMu' := Lib.hid hMu
          clear g4 hMu
          go_wp2_with fail
          refine (same_l hM4.out hMu'.out (by rw [List.length_map]; have := hle'.out; omega)).mono ?_; rintro e w5 ⟨rfl, g5⟩
          have hL5 := Lib.hid (hL4.out.keep g5)
          clear g5
          go_wp2_with fail
          refine (hL5.out.ints (by omega) (by rw [List.length_map]; have := hle'.out; omega)).mono ?_; rintro e w6 ⟨⟨y, rfl⟩, hP6⟩
          have hP6' := Lib.hid hP6
          clear hP6
          go_wp2_with fail
          go_roundw
          case rel => exact ⟨k + 1, ns', by omega, by go_num, hle', ⟨hnd', hpp'⟩, hP6'.out⟩
          case measure => exact meas_q L k hlt
        · -- 1
          obtain ⟨g, ns', hnd', hl1', hpp', hA, hB⟩ := pair_change Q R x z ns hns.out.1 hns.out.2 (by have := hle.out; omega)
          have hle' : Hid (ns'.length ≤ k + 1) := by have := hle.out; show _ ≤ _; omega
          replace hnd' := Lib.hid hnd'
          replace hpp' := Lib.hid hpp'
          have hA' := Lib.hid hA
          have hB' := Lib.hid hB
          have hgg : (g != g) = false := by simp
          clear hA hB hl1'
          go_wp2_with fail
          refine (hP1.out.obj (E := fun e => e = .returned (.int .i64 g)) hA'.out).mono ?_; rintro e w1 ⟨rfl, hP2⟩
          have hP2' := Lib.hid hP2
          have hx1 : w1.cell? ⟨wr.heap.size, 1, none⟩ = some (.int .i64 x) := hP2'.out.arr.cell (i := 1) (by decide)
          have hx2 : w1.cell? ⟨wr.heap.size, 2, none⟩ = some (.int .i64 z) := hP2'.out.arr.cell (i := 2) (by decide)
          clear hP2
          go_wp2_with fail
          refine (hP2'.out.step (E := fun e => e = .returned (.int .i64 g)) hB'.out).mono ?_; rintro e w2 ⟨rfl, hP3x⟩
          clear hx1 hx2
          have hP3 := Lib.hid hP3x.qp
          clear hP3x
          go_wp2_with fail
          refine (hP3.out.objList (by have := hle'.out; omega)).mono ?_; rintro e w3 ⟨l3, rfl, hM3, g3⟩
          have hL3 := Lib.hid (hP3.out.list g3 hM3)
          have hM3' := Lib.hid hM3.1
          clear g3 hM3
          go_wp2_with fail
          refine (hL3.out.objFirst).mono ?_; rintro e w3b ⟨rfl, rfl⟩
          go_wp2_with fail
          refine (hL3.out.refFirst (by have := hle'.out; omega)).mono ?_; rintro e w3c ⟨rfl, rfl⟩
          generalize (fstV ns').1 = f1
          generalize (fstV ns').2 = f2
          have hff : (f1 != f1) = false := by simp
          have hfb : (f2 != f2) = false := by simp
          go_wp2_with fail
          refine (hL3.out.refList (by have := hle'.out; omega)).mono ?_; rintro e w4 ⟨u, rfl, hMu, g4⟩
          have hL4 := Lib.hid (hL3.out.keep g4)
          have hM4 := Lib.hid (hM3'.out.keep g4)
          have hMu' := Lib.hid hMu
          clear g4 hMu
          go_wp2_with fail
          refine (same_l hM4.out hMu'.out (by rw [List.length_map]; have := hle'.out; omega)).mono ?_; rintro e w5 ⟨rfl, g5⟩
          have hL5 := Lib.hid (hL4.out.keep g5)
          clear g5
          go_wp2_with fail
          refine (hL5.out.ints (by omega) (by rw [List.length_map]; have := hle'.out; omega)).mono ?_; rintro e w6 ⟨⟨y, rfl⟩, hP6⟩
          have hP6' := Lib.hid hP6
          clear hP6
          go_wp2_with fail
          go_roundw
          case rel => exact ⟨k + 1, ns', by omega, by go_num, hle', ⟨hnd', hpp'⟩, hP6'.out⟩
          case measure => exact meas_q L k hlt
        · -- 2
          obtain ⟨g, ns', hnd', hl1', hpp', hA, hB⟩ := pair_put Q R x z ns hns.out.1 hns.out.2 (by have := hle.out; omega)
          have hle' : Hid (ns'.length ≤ k + 1) := by have := hle.out; show _ ≤ _; omega
          replace hnd' := Lib.hid hnd'
          replace hpp' := Lib.hid hpp'
          have hA' := Lib.hid hA
          have hB' := Lib.hid hB
          have hgg : (g != g) = false := by simp
          clear hA hB hl1'
          go_wp2_with fail
          refine (hP1.out.obj (E := fun e => e = .returned (.int .i64 g)) hA'.out).mono ?_; rintro e w1 ⟨rfl, hP2⟩
          have hP2' := Lib.hid hP2
          have hx1 : w1.cell? ⟨wr.heap.size, 1, none⟩ = some (.int .i64 x) := hP2'.out.arr.cell (i := 1) (by decide)
          have hx2 : w1.cell? ⟨wr.heap.size, 2, none⟩ = some (.int .i64 z) := hP2'.out.arr.cell (i := 2) (by decide)
          clear hP2
          go_wp2_with fail
          refine (hP2'.out.step (E := fun e => e = .returned (.int .i64 g)) hB'.out).mono ?_; rintro e w2 ⟨rfl, hP3x⟩
          clear hx1 hx2
          have hP3 := Lib.hid hP3x.qp
          clear hP3x
          go_wp2_with fail
          refine (hP3.out.objList (by have := hle'.out; omega)).mono ?_; rintro e w3 ⟨l3, rfl, hM3, g3⟩
          have hL3 := Lib.hid (hP3.out.list g3 hM3)
          have hM3' := Lib.hid hM3.1
          clear g3 hM3
          go_wp2_with fail
          refine (hL3.out.objFirst).mono ?_; rintro e w3b ⟨rfl, rfl⟩
          go_wp2_with fail
          refine (hL3.out.refFirst (by have := hle'.out; omega)).mono ?_; rintro e w3c ⟨rfl, rfl⟩
          generalize (fstV ns').1 = f1
          generalize (fstV ns').2 = f2
          have hff : (f1 != f1) = false := by simp
          have hfb : (f2 != f2) = false := by simp
          go_wp2_with fail
          refine (hL3.out.refList (by have := hle'.out; omega)).mono ?_; rintro e w4 ⟨u, rfl, hMu, g4⟩
          have hL4 := Lib.hid (hL3.out.keep g4)
          have hM4 := Lib.hid (hM3'.out.keep g4)
          have hMu' := Lib.hid hMu
          clear g4 hMu
          go_wp2_with fail
          refine (same_l hM4.out hMu'.out (by rw [List.length_map]; have := hle'.out; omega)).mono ?_; rintro e w5 ⟨rfl, g5⟩
          have hL5 := Lib.hid (hL4.out.keep g5)
          clear g5
          go_wp2_with fail
          refine (hL5.out.ints (by omega) (by rw [List.length_map]; have := hle'.out; omega)).mono ?_; rintro e w6 ⟨⟨y, rfl⟩, hP6⟩
          have hP6' := Lib.hid hP6
          clear hP6
          go_wp2_with fail
          go_roundw
          case rel => exact ⟨k + 1, ns', by omega, by go_num, hle', ⟨hnd', hpp'⟩, hP6'.out⟩
          case measure => exact meas_q L k hlt
      · have hP' := hP
        obtain rfl : L = k := by omega
        clear hP
        go_wp2_with fail
        refine (hP'.out.apart (by omega)).mono ?_; rintro e w6 ⟨rfl, g6⟩
        go_wp2_with fail
        refine (lives_any _).mono ?_; rintro e wd ⟨rfl, hg⟩
        have hG := Lib.hid (grown_trans g6 hg)
        clear g6 hg
        go_wp2_with fail
        go_ret
        exact ⟨rfl, hG.out⟩
end Go.Proofs.YtiakbgdeanllnaaDoor
