/- ReadyStays. -/
import Derived.Test.YtdbddfbdhgohbaaRdyA
import Derived.Test.YtdbddfbdhgohbaaRws
namespace Go.Proofs.Ytdbddfbdhgohbaa
open Go.RowKit Go.Shelf Tk Tk.Lad Tk.Rdy
set_option linter.unusedVariables false
set_option linter.unusedSimpArgs false
theorem upd_upd {α : Type} (f : Nat → α) (k : Nat) (a b : α) : upd (upd f k a) k b = upd f k b := by
  funext i
  unfold upd
  split <;> rfl
theorem meas_up (n q : Nat) (h : q < n) : n - (intOf (.int .i64 ((q : Int) + 1))).toNat < n - (intOf (.int .i64 (q : Int))).toNat := by simp [intOf]; omega
theorem gd_app {xs : List Int} {x : Int} {i : Nat} (h : i < xs.length) : gd (xs ++ [x]) i = gd xs i := by
  unfold gd; rw [List.getElem?_append_left h]
theorem gd_app_last (xs : List Int) (x : Int) : gd (xs ++ [x]) xs.length = x := by simp [gd]
theorem gd_erase' {xs : List Int} {k j : Nat} : gd (xs.eraseIdx k) j = if j < k then gd xs j else gd xs (j + 1) := by
  unfold gd; rw [List.getElem?_eraseIdx]; split <;> rfl
theorem gd_inj {xs : List Int} (hn : xs.Nodup) {i j : Nat} (hi : i < xs.length) (hj : j < xs.length) (h : gd xs i = gd xs j) : i = j := by
  rw [gd_lt hi, gd_lt hj] at h; exact (List.getElem_inj hn).1 h
set_option maxRecDepth 100000 in
set_option maxHeartbeats 8000000 in
theorem readyStays_walk (A0 : Option Addr) (c0 L : Nat) (R : Nat → Nat → Int) (hl0 : L ≤ c0) (t : Int) (wt : (Lit.int .u8 t).wf = true) (w : World) (hs0 : RowsA w [.u8, .i64, .i64] A0 L R) (hf0 : ∀ i, i < L → ∀ q, q < 3 → (Lit.int ([IntKind.u8, .i64, .i64].getD q .u8) (R i q)).wf = true) (hb0 : L * 24 ≤ 140737488351232) :
    Calls Try.prog 4 #[.slice A0 L c0, .int .u8 t] w fun e w' => e = .returned (.bool true) ∧ w.grownBy w' none := by
  have hfit : Hid (∀ i, i < L → 0 ≤ R i 0 ∧ R i 0 < 256) := fun i hi => wf_u8 (hf0 i hi 0 (by decide))
  clear hf0 hb0
  by_cases hlen : 300 < L
  · have hd : decide ((300 : Int) < (L : Int)) = true := decide_eq_true (by omega)
    clear hlen
    go_enter Try.func4, Try.ntmps4
    go_wp2_with fail
    refine (lives_any _).mono ?_; rintro e we ⟨rfl, hg2⟩
    go_wp2_with fail
    go_ret
    exact ⟨rfl, hg2⟩
  · have hx : L ≤ 300 := by omega
    have hd : decide ((300 : Int) < (L : Int)) = false := decide_eq_false (by omega)
    have hK := Lib.hid (fun wr (h : w.grownBy wr none) => hs0.kept h)
    obtain ⟨t1, t2⟩ := wf_u8 wt
    clear wt hlen hs0
    obtain ⟨T, rfl⟩ := Int.eq_ofNat_of_zero_le t1
    clear t1
    obtain ⟨r, hr, hr32⟩ : ∃ r : Nat, ((T : Int) % 32) = r ∧ r < 32 := ⟨T % 32, by omega, Nat.mod_lt _ (by decide)⟩
    replace hr := Lib.hid hr
    go_enter Try.func4, Try.ntmps4
    go_wp2_with fail
    refine (newq_ok _).mono ?_; rintro e w0 ⟨Q, Bs, Ms, rfl, h0, hB, g0⟩
    have hR0 : Rok w0 Q Bs Ms := ⟨_, _, _, Ok.start, h0⟩
    replace hB := Lib.hid hB
    clear h0
    go_wp2_with fail
    go_loopw [6] (fun i wr => ∃ k : Nat, k ≤ L ∧ i = .int .i64 k ∧ Rok wr Q Bs Ms ∧ w.grownBy wr none) (fun i _ => L - (intOf i).toNat)
    case atStart => exact ⟨0, Nat.zero_le _, rfl, hR0, g0⟩
    case round =>
      obtain ⟨k, hk, rfl, hR, hg⟩ := hrel
      clear hR0 g0
      by_cases hlt : k < L
      · obtain ⟨b, o, rfl, hb, hcs⟩ := (hK.out _ hg).at hlt
        have hc0 := hcs 0 (by decide)
        have hc1 := hcs 1 (by decide)
        have hc2 := hcs 2 (by decide)
        have hr := hfit.out k hlt
        generalize R k 0 = r at *
        generalize R k 1 = n at *
        generalize R k 2 = m at *
        clear hcs
        simp only [List.length_cons, List.length_nil, Nat.reduceAdd, Nat.add_zero, List.getD_cons_zero, List.getD_cons_succ] at hc0 hc1 hc2
        have hdo := Lib.hid (does_any hR r n m hr)
        clear hR hr
        go_wp2_with fail
        refine hdo.out.mono ?_; rintro e w3 ⟨z, rfl, hR3, g3⟩
        have hg3 := q_step hg g3 hB.out
        go_wp2_with fail
        go_roundw
        case rel => exact ⟨k + 1, by omega, by go_num, hR3, hg3⟩
        case measure => exact meas_up L k hlt
      · obtain rfl : L = k := by omega
        obtain ⟨ls, rk, has, ho, hq⟩ := hR
        replace ho := Lib.hid ho
        obtain ⟨n, hn⟩ : ∃ n, (ls r).length = n := ⟨_, rfl⟩
        have hn256 : n ≤ 256 := by rw [← hn]; exact ho.out.len hr32
        have hU := Lib.hid (ho.out.nd r hr32)
        replace hn := Lib.hid hn
        clear hlt hK
        go_wp2_with fail
        rw [hr.out]
        refine (listq_in hq hr32 n hn.out).mono ?_; rintro e w5 ⟨A, c, rfl, hc, hM, g5⟩
        have hq5 := hq.keep g5
        have hg5 := grown_trans hg g5
        have hs5 := hM.sl
        obtain ⟨lo, hlo⟩ : ∃ lo, wr.heap.size = lo := ⟨_, rfl⟩
        obtain ⟨hi, hhi⟩ : ∃ hi, w5.heap.size = hi := ⟨_, rfl⟩
        have hlq : Hid (∀ k, OwnQ Q Bs Ms k → k < lo) := by
          rw [← hlo]
          rintro k (rfl | ⟨s, hs, rfl | rfl⟩)
          · exact hq.hdr.lt
          · obtain ⟨f, c, h⟩ := hq.rg s hs; exact h.hdr.lt
          · obtain ⟨f, c, h⟩ := hq.rg s hs; exact h.blk.lt
        rw [hlo, hhi] at hs5
        clear hlo hhi hM g5 hq hg
        by_cases hn0 : n = 0
        · have hd5 : ((n : Int) == 0) = true := by rw [hn0]; rfl
          replace hn0 := Lib.hid hn0
          go_wp2_with fail
          refine (lives_any _).mono ?_; rintro e w6 ⟨rfl, g6⟩
          go_wp2_with fail
          go_ret
          exact ⟨rfl, grown_trans hg5 g6⟩
        · have hd5 : ((n : Int) == 0) = false := by rw [beq_eq_false_iff_ne]; omega
          have hn1 : 0 < n := by omega
          obtain ⟨z, hz, hzn, hz9⟩ : ∃ z : Nat, ((T : Int) / 32 % (n : Int)) = z ∧ z < n ∧ z = T / 32 % n := ⟨T / 32 % n, by simp, Nat.mod_lt _ hn1, rfl⟩
          have hnI : (0 : Int) < (n : Int) := by omega
          have hb0 : (0 : Int) ≤ (T : Int) / 32 % (n : Int) := by omega
          have hb1 : (T : Int) / 32 % (n : Int) < (n : Int) := by omega
          have hb2 : ¬ (n : Int) ≤ (T : Int) / 32 % (n : Int) := by omega
          obtain ⟨b, o, rfl, hcz⟩ := hs5.at (i := z) (by rw [hn.out]; exact hzn)
          have hcz9 : w5.cell? ⟨b, o + T / 32 % n, none⟩ = some (.int .i64 (gd (ls r) z)) := by rw [← hz9]; exact hcz
          have hq4 : T / 32 % n < n := by rw [← hz9]; exact hzn
          obtain ⟨u, hu, hu256, huk⟩ := ho.out.mem r hr32 _ (gd_mem (xs := ls r) (i := z) (by rw [hn.out]; exact hzn))
          rw [hu] at hcz9 hcz
          replace hz := Lib.hid hz
          replace hz9 := Lib.hid hz9
          replace hu := Lib.hid hu
          replace huk := Lib.hid huk
          clear hcz
          go_wp2_with fail
          rw [hz.out]
          refine (removeq_in hq5 ho.out hu256 hr32 huk.out).mono ?_; rintro e w6 ⟨rfl, ⟨j, hj, hgj, hq6⟩, g6⟩
          have hjz : j = z := gd_inj hU.out hj (by rw [hn.out]; exact hzn) (by rw [hgj, hu.out])
          subst hjz
          have ho6 := ho.out.go hr32 hu256 huk.out (erase_perm hj hgj)
          obtain ⟨has6, hhas6⟩ : ∃ has6, (if (ls r).eraseIdx j = [] then clrN has r else has) = has6 := ⟨_, rfl⟩
          rw [hhas6] at hq6 ho6
          have hg6 := q_step hg5 g6 hB.out
          have hs6 := hs5.fr g6 (fun b h1 h2 hb => by have := hlq.out b hb; omega)
          have hcz6 := hs6.cell (i := j) (by rw [hn.out]; exact hzn)
          rw [hu.out] at hcz6
          have zI : (j : Int) < (n : Int) := by omega
          have z0 : (0 : Int) ≤ (j : Int) := Int.natCast_nonneg _
          obtain ⟨V, hV⟩ : ∃ V, (ls r).eraseIdx j ++ [(u : Int)] = V := ⟨_, rfl⟩
          have hVl : Hid (V.length = n) := by
            show _ = _
            rw [← hV, List.length_append, List.length_eraseIdx, if_pos hj, hn.out]; simp; omega
          have hVi : Hid (∀ i, i + 1 < n → gd V i = gd (ls r) (if i < j then i else i + 1)) := fun i hi => by
            rw [← hV, gd_app (by rw [List.length_eraseIdx, if_pos hj, hn.out]; omega), gd_erase']
            split <;> rfl
          have hVz : Hid (gd V (n - 1) = u) := by
            show _ = _
            have : ((ls r).eraseIdx j).length = n - 1 := by rw [List.length_eraseIdx, if_pos hj, hn.out]
            rw [← hV, ← this, gd_app_last]
          replace hhas6 := Lib.hid hhas6
          replace hgj := Lib.hid hgj
          replace hj := Lib.hid hj
          replace ho6 := Lib.hid ho6
          clear hq5 hg5 hs5 g6 hcz9 hb0 hb1 hb2 hq4
          go_wp2_with fail
          refine (putq_in hq6 ho6.out hu256 hr32 (upd_same _ _ _)).mono ?_; rintro e w7 ⟨rfl, hq7, g7⟩
          have ho7 := ho6.out.come hr32 hu256 (upd_same _ _ _) (l' := V) (by rw [upd_same, ← hV]; exact List.perm_append_comm)
          rw [upd_same, hV, upd_upd] at hq7
          rw [upd_upd] at ho7
          have hg7 := q_step hg6 g7 hB.out
          have hs7 := hs6.fr g7 (fun b h1 h2 hb => by have := hlq.out b hb; omega)
          generalize upd (upd rk u 0) u (r + 1) = rk7 at *
          generalize setN has6 (r : Int) = has7 at *
          have hV7 : Hid (upd ls r V r = V) := upd_same _ _ _
          generalize upd ls r V = ls7 at *
          replace hV := Lib.hid hV
          replace ho7 := Lib.hid ho7
          clear hq6 hg6 hs6 g7 hcz6 ho6
          go_wp2_with fail
          refine (listq_in hq7 hr32 n (by rw [hV7.out]; exact hVl.out)).mono ?_; rintro e w8 ⟨A8, c8, rfl, hc8, hM8, g8⟩
          rw [hV7.out] at hM8
          have hq8 := hq7.keep g8
          have hg8 := grown_trans hg7 g8
          have hs8 := hs7.kept g8 (by simp)
          have hl8 := hM8.sl
          obtain ⟨lo2, hlo2⟩ : ∃ lo2, w7.heap.size = lo2 := ⟨_, rfl⟩
          obtain ⟨hi2, hhi2⟩ : ∃ hi2, w8.heap.size = hi2 := ⟨_, rfl⟩
          have hlq2 : Hid (∀ k, OwnQ Q Bs Ms k → k < lo2) := by
            rw [← hlo2]
            rintro k (rfl | ⟨s, hs, rfl | rfl⟩)
            · exact hq7.hdr.lt
            · obtain ⟨f, c, h⟩ := hq7.rg s hs; exact h.hdr.lt
            · obtain ⟨f, c, h⟩ := hq7.rg s hs; exact h.blk.lt
          rw [hlo2, hhi2] at hl8
          clear hlo2 hhi2 hM8 g8 hq7 hg7 hs7
          obtain ⟨b8, o8, rfl, -⟩ := hl8.at (i := 0) (by rw [hVl.out]; exact hn1)
          have hcl := hl8.cell (i := n - 1) (by rw [hVl.out]; omega)
          rw [hVz.out] at hcl
          have hcz8 := hs8.cell (i := j) (by rw [hn.out]; exact hzn)
          rw [hu.out] at hcz8
          go_wp2_with fail
          have m1 : (0 : Int) ≤ (n : Int) - 1 := by omega
          have m2 : (n : Int) - 1 < (n : Int) := by omega
          have m3 : ((n : Int) - 1).toNat = n - 1 := by omega
          go_quiet (fail)
          have hq8 := hq8.keep (grown_drewN (grown_refl _ _) nq)
          have hg8 := grown_drewN hg8 nq
          have hs8 := hs8.drewN nq
          have hl8 := hl8.drewN nq
          obtain ⟨W8, hW8⟩ : ∃ W8, w8.drewN nq = W8 := ⟨_, rfl⟩
          rw [hW8] at hq8 hg8 hs8 hl8 ⊢
          clear hW8 hcl hcz8
          go_wp2_with fail
          go_loopw [11] (fun i wr => ∃ q : Nat, q < n ∧ i = .int .i64 q ∧ Drawn W8 wr) (fun i _ => n - (intOf i).toNat)
          case atStart => exact ⟨0, hn1, rfl, Drawn.refl _⟩
          case round =>
            obtain ⟨q, hqn, rfl, nd, rfl⟩ := hrel
            by_cases hlt : q + 1 < n
            · have qI1 : (q : Int) + 1 < (n : Int) := by omega
              have qI : (q : Int) < (n : Int) := by omega
              have q0 : (0 : Int) ≤ (q : Int) := Int.natCast_nonneg _
              have q1 : (0 : Int) ≤ (q : Int) + 1 := by omega
              have ea := hl8.cell (i := q) (by rw [hVl.out]; omega)
              rw [hVi.out q hlt] at ea
              by_cases hqj : q < j
              · rw [if_pos hqj] at ea
                have eb := hs8.cell (i := q) (by rw [hn.out]; omega)
                have dq : decide ((j : Int) ≤ (q : Int)) = false := decide_eq_false (by omega)
                generalize gd (ls r) q = y at *
                go_wp2_with fail
                go_quiet (fail)
                go_wp2_with fail
                go_roundw
                case rel => exact ⟨q + 1, hlt, by go_num, nd + nq, rfl⟩
                case measure => exact meas_up n q hqn
              · rw [if_neg hqj] at ea
                have eb := hs8.cell (i := q + 1) (by rw [hn.out]; omega)
                have dq : decide ((j : Int) ≤ (q : Int)) = true := decide_eq_true (by omega)
                generalize gd (ls r) (q + 1) = y at *
                go_wp2_with fail
                go_quiet (fail)
                go_wp2_with fail
                go_roundw
                case rel => exact ⟨q + 1, hlt, by go_num, nd + nq, rfl⟩
                case measure => exact meas_up n q hqn
            · have hqe : decide ((q : Int) + 1 < (n : Int)) = false := decide_eq_false (by omega)
              have hqe2 : ¬ (q : Int) + 1 < (n : Int) := by omega
              have hq9 := hq8.keep (grown_drewN (grown_refl _ _) nd)
              have hg9 := grown_drewN hg8 nd
              have hl9 := hl8.drewN nd
              obtain ⟨y, hy, hy256, hyk⟩ := ho7.out.mem r hr32 (gd V 0) (by rw [hV7.out]; exact gd_mem (by rw [hVl.out]; exact hn1))
              have ec := hl8.cell (i := 0) (by rw [hVl.out]; exact hn1)
              rw [hy, Nat.add_zero] at ec
              replace hy := Lib.hid hy
              replace hyk := Lib.hid hyk
              clear hq8 hg8
              go_wp2_with fail
              refine (removeq_in hq9 ho7.out hy256 hr32 hyk.out).mono ?_; rintro e w10 ⟨rfl, ⟨i0, hi0, hgi, hq10⟩, g10⟩
              have hVn : V.Nodup := by have := ho7.out.nd r hr32; rwa [hV7.out] at this
              rw [hV7.out] at hi0 hgi hq10
              have hi00 : i0 = 0 := gd_inj hVn hi0 (by rw [hVl.out]; exact hn1) (by rw [hgi, hy.out])
              subst hi00
              have ho10 := ho7.out.go (r := r) (u := y) hr32 hy256 hyk.out (l' := V.eraseIdx 0) (by rw [hV7.out]; exact erase_perm hi0 hgi)
              have hVc : Hid ((y : Int) :: V.eraseIdx 0 = V) := by
                show _ = _
                cases V with
                | nil => simp at hi0
                | cons v V => have : v = (y : Int) := hgi
                              subst this; rfl
              generalize (if V.eraseIdx 0 = [] then clrN has7 r else has7) = has10 at *
              have hg10 := q_step hg9 g10 hB.out
              have hl10 := hl9.fr g10 (fun b h1 h2 hb => by have := hlq2.out b hb; omega)
              have ec2 := hl10.cell (i := 0) (by rw [hVl.out]; exact hn1)
              rw [hy.out, Nat.add_zero] at ec2
              replace hgi := Lib.hid hgi
              replace hi0 := Lib.hid hi0
              replace ho10 := Lib.hid ho10
              clear hq9 hg9 hl9 ec g10
              go_wp2_with fail
              refine (pushq_in hq10 ho10.out hy256 hr32 (upd_same _ _ _)).mono ?_; rintro e w11 ⟨rfl, hq11, g11⟩
              rw [upd_same, hVc.out, upd_upd] at hq11
              have hg11 := q_step hg10 g11 hB.out
              have hl11 := hl10.fr g11 (fun b h1 h2 hb => by have := hlq2.out b hb; omega)
              clear hq10 hg10 hl10 ec2 g11
              go_wp2_with fail
              refine (listq_in hq11 hr32 n (by rw [upd_same]; exact hVl.out)).mono ?_; rintro e w12 ⟨A12, c12, rfl, hc12, hM12, g12⟩
              rw [upd_same] at hM12
              have hl12 := hl11.kept g12 (by simp)
              have hg12 := grown_trans hg11 g12
              clear hq11 hg11 hl11 g12
              go_wp2_with fail
              refine (same_n _ _ _ _ _ _ _ _ n V hVl.out (by omega) hc12 hc8 _ hM12.sl hl12).mono ?_; rintro e w' ⟨rfl, nd2, rfl⟩
              have hg13 := grown_drewN hg12 nd2
              go_wp2_with fail
              refine (lives_any _).mono ?_; rintro e w14 ⟨rfl, g14⟩
              go_wp2_with fail
              go_ret
              exact ⟨rfl, grown_trans hg13 g14⟩
end Go.Proofs.Ytdbddfbdhgohbaa
