/- ReadyPlays: whatever is done, the queue and the reference's answer alike, and all lists lie apart. -/
import Derived.Test.YtdbddfbdhgohbaaGreatDoorRdyP2
import Derived.Test.YtdbddfbdhgohbaaGreatDoorRws
namespace Go.Proofs.YtdbddfbdhgohbaaGreatDoor
open Go.RowKit Go.Shelf Tk Tk.Rdy
set_option linter.unusedVariables false
set_option linter.unusedSimpArgs false
theorem same_i {w : World} {b b' : Nat} {u v : Value} {xs : List Int} (hu : Mine w b 3 .i64 u xs) (hv : Mine w b' 3 .i64 v xs) (hm : xs.length ≤ 1000000) :
    Calls Tryz.prog 14 #[u, v] w fun e w' => e = .returned (.bool true) ∧ w.grownBy w' none := by
  obtain ⟨A, c, rfl, hc, -⟩ := hu.form
  obtain ⟨B, d, rfl, hd, -⟩ := hv.form
  exact (sameInts_any A B c d _ _ _ _ xs xs w hc hd hm hm hu.sl hv.sl).mono fun e w' ⟨he, n, hw⟩ => ⟨by rw [he, decide_eq_true rfl], by rw [← hw]; exact grown_drewN (grown_refl _ _) n⟩
theorem meas_q (n k : Nat) (h : k < n) : n - (intOf (.int .i64 ((k : Int) + 1))).toNat < n - (intOf (.int .i64 (k : Int))).toNat := by simp [intOf]; omega
set_option maxRecDepth 100000 in
set_option maxHeartbeats 8000000 in
theorem readyPlays_walk (A1 : Option Addr) (c1 : Nat) (L : Nat) (T : Nat → Nat → Int) (hl1 : L ≤ c1) (w : World)
    (hs1 : RowsA w [.u8, .i64, .i64] A1 L T) (hf1 : ∀ i, i < L → ∀ q, q < [IntKind.u8, .i64, .i64].length → (Lit.int ([IntKind.u8, .i64, .i64].getD q .u8) (T i q)).wf = true) (hb1 : L * 24 ≤ 140737488351232) :
    Calls Tryz.prog 3 #[.slice A1 L c1] w fun e w' => e = .returned (.bool true) ∧ w.grownBy w' none := by
  have hfit : ∀ i, i < L → 0 ≤ T i 0 ∧ T i 0 < 256 := fun i hi => wf_u8 (hf1 i hi 0 (by decide))
  replace hfit := Lib.hid hfit
  clear hf1 hb1
  by_cases hlen : 300 < L
  · have hd : decide ((300 : Int) < (L : Int)) = true := decide_eq_true (by omega)
    clear hlen hs1
    go_enter Tryz.func3, Tryz.ntmps3
    go_wp2_with fail
    refine (lives_any _).mono ?_; rintro e wd ⟨rfl, hg⟩
    go_wp2_with fail
    go_ret
    exact ⟨rfl, hg⟩
  · have hL : L ≤ 300 := by omega
    have hd : decide ((300 : Int) < (L : Int)) = false := decide_eq_false (by omega)
    have hK1 := Lib.hid (fun wr (h : w.grownBy wr none) => hs1.kept h)
    clear hlen hs1
    go_enter Tryz.func3, Tryz.ntmps3
    go_wp2_with fail
    refine (newq_ok _).mono ?_; rintro e wa ⟨Q, Bs, Ms, rfl, hQ, hBM0, hga⟩
    have hQ' : Hid (RqS wa Q Bs Ms ⟨fun _ => [], fun _ => 0, 0⟩) := hQ
    have hga' := Lib.hid hga
    have hBM := Lib.hid hBM0
    clear hQ hga hBM0
    go_wp2_with fail
    refine (RefD.newr_ok _).mono ?_; rintro e wb ⟨rfl, hR, hgb, hbs⟩
    have hst := Lib.hid (QP.start (w0 := w) (r := wa.heap.size) (s := ⟨fun _ => [], fun _ => 0, 0⟩) 37 (Rq.keep hQ'.out hgb) hR (fun b hb => ⟨hBM.out b hb, rq_lt hQ'.out b hb⟩) (by
      rintro b (rfl | ⟨r, hr, e⟩)
      · exact Nat.le_refl _
      · cases e) hga'.out.size (grown_trans hga'.out hgb))
    obtain ⟨R, hRR⟩ : ∃ R, wa.heap.size = R := ⟨_, rfl⟩
    rw [hRR] at hst
    rw [hRR]
    clear hR hgb hbs hQ' hga' hBM hRR
    go_wp2_with fail
    obtain ⟨K, hKk⟩ : ∃ K, wb.heap.size = K := ⟨_, rfl⟩
    rw [hKk] at hst
    rw [hKk]
    clear hKk
    obtain ⟨W, hW⟩ : ∃ W, wb.alloc (.cells #[.int .i64 0, .slice none 0 0, .slice none 0 0, .slice none 0 0, .slice none 0 0, .slice none 0 0, .slice none 0 0, .slice none 0 0, .slice none 0 0] 37) = W := ⟨_, rfl⟩
    rw [hW] at hst
    rw [hW]
    clear hW
    go_loopw [6] (fun i wr => ∃ (k : Nat) (s : Stt), k ≤ L ∧ i = .int .i64 k ∧ Hid s.ok ∧ Hid (QP w wr Q Bs Ms R K k s s)) (fun i _ => L - (intOf i).toNat)
    case atStart => exact ⟨0, ⟨fun _ => [], fun _ => 0, 0⟩, Nat.zero_le _, rfl, (Ok.start : Ok (fun _ => []) (fun _ => 0) 0), hst.out⟩
    case round =>
      obtain ⟨k, s, hk, rfl, hok, hP⟩ := hrel
      clear hst
      by_cases hlt : k < L
      · obtain ⟨b, o, rfl, hb, hcs⟩ := (hK1.out _ hP.out.g).at hlt
        have hc := hcs 0 (by decide)
        have hc1 := hcs 1 (by decide)
        have hc2 := hcs 2 (by decide)
        obtain ⟨r1, r2⟩ := hfit.out k hlt
        generalize T k 0 = r at *
        generalize hx : T k 1 = x at *
        generalize hz : T k 2 = z at *
        obtain ⟨r, rfl⟩ := Int.eq_ofNat_of_zero_le r1
        have hr256 : r < 256 := by omega
        have hkI : (k : Int) < (L : Int) := by omega
        clear r1 r2 hcs hx hz
        simp only [List.length_cons, List.length_nil, Nat.reduceAdd, Nat.add_zero, List.getD_cons_zero, List.getD_cons_succ] at hc hc1 hc2
        have hX := Arr.new wr #[.int .u8 (r : Int), .int .i64 x, .int .i64 z] 39 3 (act3 r x z) rfl (fun i hi => by
          rcases (by omega : i = 0 ∨ i = 1 ∨ i = 2) with rfl | rfl | rfl <;> rfl)
        have hP1 := Lib.hid (hP.out.withX _ _ hX)
        clear hP hX
        have hPd : Hid (QPX w (wr.alloc (.cells #[.int .u8 (r : Int), .int .i64 x, .int .i64 z] 39)).drew Q Bs Ms R K k wr.heap.size 3 (act3 r x z) s s) := hP1.out.keep (grown_drewN (grown_refl _ _) 1)
        obtain ⟨g, s', hok', hA, hB⟩ := pair_act Q R Bs Ms r hr256 x z s hok.out
        replace hok' := Lib.hid hok'
        have hA' := Lib.hid hA
        have hB' := Lib.hid hB
        have hgg : (g != g) = false := by simp
        clear hA hB hr256
        have s0 : (wr.alloc (.cells #[.int .u8 (r : Int), .int .i64 x, .int .i64 z] 39)).drew.cell? ⟨wr.heap.size, 0, none⟩ = some (.int .u8 (r : Int)) := hPd.out.arr.cell (i := 0) (by decide)
        have s1 : (wr.alloc (.cells #[.int .u8 (r : Int), .int .i64 x, .int .i64 z] 39)).drew.cell? ⟨wr.heap.size, 1, none⟩ = some (.int .i64 x) := hPd.out.arr.cell (i := 1) (by decide)
        have s2 : (wr.alloc (.cells #[.int .u8 (r : Int), .int .i64 x, .int .i64 z] 39)).drew.cell? ⟨wr.heap.size, 2, none⟩ = some (.int .i64 z) := hPd.out.arr.cell (i := 2) (by decide)
        go_wp2_with fail
        go_region_held3 (fun w' => w'.cell? ⟨wr.heap.size, 0, none⟩ = some (.int .u8 (r : Int)) ∧ w'.cell? ⟨wr.heap.size, 1, none⟩ = some (.int .i64 x) ∧ w'.cell? ⟨wr.heap.size, 2, none⟩ = some (.int .i64 z)) (first | exact ⟨s0, s1, s2⟩ | exact ⟨t0, t1, t2⟩ | exact ⟨u0, u1, u2⟩ | go_keep)
          (first
            | (go_at_call 7; refine (hPd.out.obj (E := fun e => e = .returned (.int .i64 g)) hA'.out).mono ?_; rintro e w1 ⟨rfl, hP2⟩; have t0 : w1.cell? ⟨wr.heap.size, 0, none⟩ = some (.int .u8 (r : Int)) := hP2.arr.cell (i := 0) (by decide); have t1 : w1.cell? ⟨wr.heap.size, 1, none⟩ = some (.int .i64 x) := hP2.arr.cell (i := 1) (by decide); have t2 : w1.cell? ⟨wr.heap.size, 2, none⟩ = some (.int .i64 z) := hP2.arr.cell (i := 2) (by decide); replace hP2 := Lib.hid hP2)
            | (go_at_call 8; refine (hP2.out.step (E := fun e => e = .returned (.int .i64 g)) hB'.out).mono ?_; rintro e w2 ⟨rfl, hP3x⟩; have u0 : w2.cell? ⟨wr.heap.size, 0, none⟩ = some (.int .u8 (r : Int)) := hP3x.arr.cell (i := 0) (by decide); have u1 : w2.cell? ⟨wr.heap.size, 1, none⟩ = some (.int .i64 x) := hP3x.arr.cell (i := 1) (by decide); have u2 : w2.cell? ⟨wr.heap.size, 2, none⟩ = some (.int .i64 z) := hP3x.arr.cell (i := 2) (by decide); replace hP3x := Lib.hid hP3x))
        all_goals
          have hP3 := hP3x
          clear s0 s1 s2 t0 t1 t2 u0 u1 u2 hP2 hPd hP1 hA' hB'
          go_wp2_with fail
          refine (first_obj hP3.out.que hok'.out).mono ?_; rintro e w4 ⟨rfl, g4⟩
          have hP4 := Lib.hid (hP3.out.keep g4)
          clear g4 hP3 hP3x
          go_wp2_with fail
          refine (hP4.out.refFirst hok'.out).mono ?_; rintro e w5 ⟨rfl, rfl⟩
          have v1 : w4.cell? ⟨wr.heap.size, 1, none⟩ = some (.int .i64 x) := hP4.out.arr.cell (i := 1) (by decide)
          have v2 : w4.cell? ⟨wr.heap.size, 2, none⟩ = some (.int .i64 z) := hP4.out.arr.cell (i := 2) (by decide)
          go_wp2_with fail
          refine (rank_obj hP4.out.que hok'.out x).mono ?_; rintro e w6 ⟨rfl, rfl⟩
          go_wp2_with fail
          refine (hP4.out.refRank hok'.out x).mono ?_; rintro e w7 ⟨rfl, rfl⟩
          go_wp2_with fail
          refine (list_obj hP4.out.que z).mono ?_; rintro e w8 ⟨l8, rfl, hM8, g8⟩
          have hL8 := Lib.hid (hP4.out.qp.list g8 hM8)
          have y2 : w8.cell? ⟨wr.heap.size, 2, none⟩ = some (.int .i64 z) := (hP4.out.keep g8).arr.cell (i := 2) (by decide)
          have hM8' := Lib.hid hM8
          clear g8 hM8 v1 v2
          generalize (fstV s').1 = f1
          generalize (fstV s').2 = f2
          generalize (RefD.rankV s'.rk x).1 = f3
          generalize (RefD.rankV s'.rk x).2 = f4
          have q1 : (f1 != f1) = false := by simp
          have q2 : (f2 != f2) = false := by simp
          have q3 : (f3 != f3) = false := by simp
          have q4 : (f4 != f4) = false := by simp
          go_wp2_with fail
          refine (hL8.out.refList hok'.out z).mono ?_; rintro e w9 ⟨u9, rfl, hM9, g9⟩
          have hL9 := Lib.hid (hL8.out.keep g9)
          have hM89 := Lib.hid (hM8'.out.keep g9)
          have hM9' := Lib.hid hM9
          clear g9 hM9 y2
          go_wp2_with fail
          refine (same_i hM89.out hM9'.out (Nat.le_trans (lsV_len hok'.out z) (by decide))).mono ?_; rintro e w10 ⟨rfl, g10⟩
          have hL10 := Lib.hid (hL9.out.keep g10)
          clear g10
          go_wp2_with fail
          refine (hL10.out.ints (by omega) (Nat.le_trans (lsV_len hok'.out z) (by decide))).mono ?_; rintro e w11 ⟨⟨y, rfl⟩, hP6⟩
          have hP6' := Lib.hid hP6
          clear hP6
          go_wp2_with fail
          go_roundw
          case rel => exact ⟨k + 1, s', by omega, by go_num, hok', hP6'.out⟩
          case measure => exact meas_q L k hlt
      · have hP' := hP
        obtain rfl : L = k := by omega
        clear hP
        go_wp2_with fail
        refine (hP'.out.apart (by omega)).mono ?_; rintro e w6 ⟨rfl, g6⟩
        go_wp2_with fail
        refine (lives_any _).mono ?_; rintro e wd ⟨rfl, hg⟩
        have hG := Lib.hid (grown_trans g6 hg)
        clear g6 hg
        go_wp2_with fail
        go_ret
        exact ⟨rfl, hG.out⟩
end Go.Proofs.YtdbddfbdhgohbaaGreatDoor
