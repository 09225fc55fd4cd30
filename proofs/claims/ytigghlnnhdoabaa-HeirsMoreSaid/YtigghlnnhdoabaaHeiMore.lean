/- HeirsMore. -/
import Derived.Test.YtigghlnnhdoabaaHeiA
namespace Go.Proofs.Ytigghlnnhdoabaa
open Go.RowKit Go.Shelf Tk Tk.Hei
set_option linter.unusedVariables false
set_option linter.unusedSimpArgs false

theorem grown_cell {w w' : World} (h : w.grownBy w' none) {p : Addr} {v : Value} (hc : w.cell? p = some v) : w'.cell? p = some v := by
  rw [← hc]
  refine World.cell?_of_block (w := w) (h.block p.block ?_ (by simp))
  by_cases hb : p.block < w.heap.size
  · exact hb
  · exfalso
    unfold World.cell? at hc
    rw [Array.getElem?_eq_none (by omega)] at hc
    cases hc
theorem ints_one (xs : List Int) : ∀ u ∈ xs.map (Value.int .i64), u.oneCell' = true := by
  intro u hu
  rw [List.mem_map] at hu
  obtain ⟨y, -, rfl⟩ := hu
  rfl
set_option maxRecDepth 100000 in
set_option maxHeartbeats 8000000 in
theorem heirsMore_walk (A0 : Option Addr) (c0 : Nat) (bs : List Int) (hl0 : bs.length ≤ c0) (A1 : Option Addr) (c1 : Nat) (ws : List Int) (hl1 : ws.length ≤ c1) (x : Int) (wx : (Lit.int .u8 x).wf = true) (y : Int) (wy : (Lit.int .u8 y).wf = true) (w : World)
    (hs0 : SlA w 0 w.heap.size .i64 A0 bs) (hs1 : SlA w 0 w.heap.size .i64 A1 ws) :
    Calls Try.prog 5 #[.agg #[.slice A0 bs.length c0, .slice A1 ws.length c1, .int .u8 x, .int .u8 y]] w fun e w' => e = .returned (.bool true) ∧ w.grownBy w' none := by
  have hK0 := Lib.hid (fun wr (h : w.grownBy wr none) => hs0.kept h (by simp))
  have hK1 := Lib.hid (fun wr (h : w.grownBy wr none) => hs1.kept h (by simp))
  obtain ⟨x1, x2⟩ := wf_u8 wx
  obtain ⟨y1, y2⟩ := wf_u8 wy
  obtain ⟨X, rfl⟩ := Int.eq_ofNat_of_zero_le x1
  obtain ⟨Y, rfl⟩ := Int.eq_ofNat_of_zero_le y1
  have hr := Lib.hid (fun wr (h : w.grownBy wr none) => ranks_any A0 A1 c0 c1 0 w.heap.size 0 w.heap.size bs ws wr (hK0.out _ h) (hK1.out _ h))
  clear wx wy x1 y1
  obtain ⟨n, hn⟩ : ∃ n, bs.length = n := ⟨_, rfl⟩
  obtain ⟨m, hm⟩ : ∃ m, ws.length = m := ⟨_, rfl⟩
  rw [hn, hm] at hr ⊢
  rw [hn] at hl0
  rw [hm] at hl1
  replace hn := Lib.hid hn
  replace hm := Lib.hid hm
  clear hs0 hs1
  obtain ⟨i0, hi0, hz0, hz1, hz2⟩ := info_parts infoInt
  have hg0 := grown_alloc (grown_refl w none) (.cells #[.slice A0 n c0, .slice A1 m c1, .int .u8 X, .int .u8 Y] 31)
  go_enter Try.func5, Try.ntmps5
  go_wp2_with fail
  refine (hr.out _ hg0).mono ?_; rintro e w1 (⟨hno, rfl, hg⟩ | ⟨hok, out, A, rfl, hL, hC, hg⟩)
  · replace hno := Lib.hid hno
    have hg1 := grown_trans hg0 hg
    go_wp2_with fail
    refine (lives_any _).mono ?_; rintro e w2 ⟨rfl, hg2⟩
    go_wp2_with fail
    go_ret
    exact ⟨rfl, grown_trans hg1 hg2⟩
  · have hg1 := grown_trans hg0 hg
    have hn256 : n ≤ 256 := by have := hok.few; rwa [hn.out] at this
    have hol : out.length = n := hL.len.trans hn.out
    have hmn : m = n := by have := hok.len; rwa [hm.out, hn.out] at this
    subst hmn
    rw [hol]
    replace hol := Lib.hid hol
    replace hL := Lib.hid hL
    replace hok := Lib.hid hok
    have hC1 : Hid (Cut w1 w.heap.size A out) := by
      refine hC.imp id ?_
      rintro ⟨g, c, e, h1, h2, hM⟩
      exact ⟨g, c, e, h1, h2, hM.1, hM.2.imp id (by rintro ⟨g', cap, cur, q1, q2, q3⟩; exact ⟨g', cap, cur, q1, by have := hg0.size; omega, q3⟩)⟩
    clear hC hg hg0
    by_cases h2 : m < 2
    · have hd : decide ((m : Int) < 2) = true := decide_eq_true (by omega)
      go_wp2_with fail
      refine (lives_any _).mono ?_; rintro e w2 ⟨rfl, hg2⟩
      go_wp2_with fail
      go_ret
      exact ⟨rfl, grown_trans hg1 hg2⟩
    · have hd : decide ((m : Int) < 2) = false := decide_eq_false (by omega)
      obtain ⟨i, hi, him, hi9⟩ : ∃ i : Nat, ((X : Int) % (m : Int)) = i ∧ i < m ∧ i = X % m := ⟨X % m, by simp, Nat.mod_lt _ (by omega), rfl⟩
      obtain ⟨k, hk, hkm, hk9⟩ : ∃ k : Nat, ((Y : Int) % (m : Int)) = k ∧ k < m ∧ k = Y % m := ⟨Y % m, by simp, Nat.mod_lt _ (by omega), rfl⟩
      have hm0 : (0 : Int) < (m : Int) := by omega
      have hmz : ¬ m = 0 := by omega
      have hx0 : (0 : Int) ≤ (X : Int) % (m : Int) := by omega
      have hx1 : (X : Int) % (m : Int) ≤ 256 := by omega
      have hy0 : (0 : Int) ≤ (Y : Int) % (m : Int) := by omega
      have hy1 : (Y : Int) % (m : Int) ≤ 256 := by omega
      by_cases hik : i = k
      · have hb : ((X : Int) % (m : Int) == (Y : Int) % (m : Int)) = true := by rw [hi, hk, hik, beq_iff_eq]
        replace hi := Lib.hid hi
        replace hk := Lib.hid hk
        replace hi9 := Lib.hid hi9
        replace hk9 := Lib.hid hk9
        go_wp2_with fail
        all_goals
          refine (lives_any _).mono ?_; rintro e w2 ⟨rfl, hg2⟩
          go_wp2_with fail
          go_ret
          exact ⟨rfl, grown_trans hg1 hg2⟩
      · have hb : ((X : Int) % (m : Int) == (Y : Int) % (m : Int)) = false := by rw [hi, hk, beq_eq_false_iff_ne]; omega
        obtain ⟨b1, o1, rfl, hc1⟩ := (hK1.out _ hg1).at (i := i) (by rw [hm.out]; exact him)
        rw [hi9] at hc1
        have hq4 : X % m < m := by rw [← hi9]; exact him
        by_cases hpos : 0 ≤ gd ws i
        · have hd3 : decide ((0 : Int) ≤ gd ws (X % m)) = true := by rw [← hi9]; exact decide_eq_true hpos
          replace hi := Lib.hid hi
          replace hk := Lib.hid hk
          replace hi9 := Lib.hid hi9
          replace hk9 := Lib.hid hk9
          go_wp2_with fail
          refine (lives_any _).mono ?_; rintro e w2 ⟨rfl, hg2⟩
          go_wp2_with fail
          go_ret
          exact ⟨rfl, grown_trans hg1 hg2⟩
        · have hd3 : decide ((0 : Int) ≤ gd ws (X % m)) = false := by rw [← hi9]; exact decide_eq_false hpos
          replace hi := Lib.hid hi
          replace hk := Lib.hid hk
          replace hi9 := Lib.hid hi9
          replace hk9 := Lib.hid hk9
          have hnews := Lib.hid (SlA_src (hK1.out _ hg1))
          have hll : Hid ((ws.map (Value.int .i64)).length = m * 1) := by show _ = _; rw [List.length_map, hm.out, Nat.mul_one]
          have hws : w.heap.size ≤ w1.heap.size := hg1.size
          go_wp2_with (at_builtin; refine wpList_append_own _ rfl _ _ 22 rfl w1.heap.size 3 i0 (.int .i64 0) 1 8 Try.underlying22 hi0 hz0 hz1 hz2 rfl (by decide) (.slice none 0 0) 0 [] rfl (World.ownsRow_nil _ _ _ _) ⟨b1, o1, none⟩ m c1 (ws.map (Value.int .i64)) rfl hll.out hnews.out (ints_one _) (by unfold maxLen; omega) (by omega) (Nat.le_refl _) ?_; intro v' w2 hown hgrow _; obtain ⟨g, cap, rfl, hgb, hgl⟩ := hown.form (by omega); have hMw : Mine w2 w1.heap.size 3 .i64 (.slice (some ⟨g, 0, none⟩) m cap) ws := (by have h := hown; rw [Nat.zero_add, List.nil_append] at h; unfold Mine; rw [hm.out]; exact h); have hcx := hMw.cell (i := X % m) (by rw [hm.out]; exact hq4); have hfz := hMw.frozen (X % m); have hgr1 : w1.grownBy w2 none := hgrow)
          rw [hi.out, hk.out, ← hi9.out]
          have hM3 := hMw.set i (k : Int)
          have hg2 := grown_trans hg1 hgr1
          have hg3 : w.grownBy (w2.setCell ⟨g, i, none⟩ (.int .i64 k)) none := grown_step hg2 (grownBy_setCell _ _ _ _) (Nat.le_trans hws hgb)
          have hml : Hid ((ws.set i (k : Int)).length = m) := by show _ = _; rw [List.length_set]; exact hm.out
          have hC2 : Hid (Cut (w2.setCell ⟨g, i, none⟩ (.int .i64 k)) w.heap.size A out) := by
            refine hC1.out.imp id ?_
            rintro ⟨g', c', e, h1, h2, hM⟩
            have hne : g' ≠ g := fun e => by subst e; have := hM.lt.2; omega
            exact ⟨g', c', e, h1, h2, (hM.keep hgr1).kept (grownBy_setCell _ _ _ _) (.inr (by simp [Value.ownBlock]; exact hne))⟩
          have hok2 : Hid (Okr bs (ws.set i (k : Int))) := hok.out.more (by rw [hn.out]; exact him) (by rw [hn.out]; exact hkm) hik
          obtain ⟨W3, hW3⟩ : ∃ W3, w2.setCell ⟨g, i, none⟩ (.int .i64 k) = W3 := ⟨_, rfl⟩
          rw [hW3] at hM3 hg3 hC2 ⊢
          have hs3 := hM3.sl
          have hr2 := ranks_any A0 (some ⟨g, 0, none⟩) c0 cap 0 w.heap.size w1.heap.size W3.heap.size bs (ws.set i (k : Int)) W3 (hK0.out _ hg3) hs3
          rw [hn.out, hml.out] at hr2
          clear hW3 hown hgrow hgb hgl hfz hMw hcx hgr1 hg2 hC1 hM3 hc1 hnews hll
          refine hr2.mono ?_; rintro e w4 (⟨hno, -, -⟩ | ⟨-, out2, A2, rfl, hL2, hC3, hg4⟩)
          · exact absurd hok2.out hno
          · have hg4' := grown_trans hg3 hg4
            have hs4 := hs3.kept hg4 (by simp)
            have hC4 : Hid (Cut w4 w.heap.size A out) := hC2.out.keep hg4
            have hol2 : out2.length = m := hL2.len.trans hn.out
            rw [hol2]
            replace hol2 := Lib.hid hol2
            obtain ⟨hi3, hhi3⟩ : ∃ hi3, W3.heap.size = hi3 := ⟨_, rfl⟩
            rw [hhi3] at hC3 hs4
            replace hC3 := Lib.hid hC3
            have hmr : Hid (∀ q, q < m → gd out q ≤ gd out2 q ∧ (gd out q < gd out2 q → Circ (ws.set i (k : Int)) q i)) := fun q hq => by
              obtain ⟨h1, h2⟩ := hL.out.more (by rw [hm.out, hn.out]) (by rw [hn.out]; exact him) (by rw [hn.out]; exact hkm) (by omega) hL2 q (by rw [hn.out]; exact hq)
              refine ⟨h1, fun h => ?_⟩
              have hlen : ((ws.set i (k : Int)).length : Int) = m := by rw [hml.out]
              exact ⟨hok2.out.okw, by omega, by rw [hlen]; omega, by omega, by rw [hlen]; omega, h2 h⟩
            replace hL2 := Lib.hid hL2
            clear hr2 hg3 hg4 hC2 hs3 hhi3
            go_wp2_with fail
            go_loopw [14] (fun j wr => ∃ q : Nat, q ≤ m ∧ j = .int .i64 q ∧ w.grownBy wr none ∧ Hid (Cut wr w.heap.size A out) ∧ Hid (Cut wr hi3 A2 out2) ∧ SlA wr w1.heap.size hi3 .i64 (some ⟨g, 0, none⟩) (ws.set i (k : Int))) (fun j _ => m - (intOf j).toNat)
            case atStart => exact ⟨0, Nat.zero_le _, rfl, hg4', hC4.out, hC3.out, hs4⟩
            case round =>
              obtain ⟨q, hq, rfl, hg, hCa, hCb, hs⟩ := hrel
              by_cases hlt : q < m
              · have hqI : (q : Int) < (m : Int) := by omega
                have hq0 : (0 : Int) ≤ (q : Int) := Int.natCast_nonneg _
                obtain ⟨ba, oa, rfl, hca⟩ := hCa.out.sl.at (i := q) (by rw [hol.out]; exact hlt)
                obtain ⟨bb, ob, rfl, hcb⟩ := hCb.out.sl.at (i := q) (by rw [hol2.out]; exact hlt)
                obtain ⟨hle, hci⟩ := hmr.out q hlt
                generalize gd out q = xa at *
                generalize gd out2 q = xb at *
                have e1 : decide (xb < xa) = false := decide_eq_false (by omega)
                by_cases hgt : xa < xb
                · have e2 : decide (xa < xb) = true := decide_eq_true hgt
                  have hcc := Lib.hid (circle_n (some ⟨g, 0, none⟩) cap w1.heap.size hi3 m (ws.set i (k : Int)) hml.out (by omega) (q : Int) (i : Int) true ⟨fun _ => hci hgt, fun _ => rfl⟩ wr.drew hs)
                  replace hci := Lib.hid hci
                  clear hgt hle
                  go_wp2_with fail
                  go_region_held3 (fun w' => w'.cell? ⟨ba, oa + q, none⟩ = some (.int .i64 xa) ∧ w'.cell? ⟨bb, ob + q, none⟩ = some (.int .i64 xb)) (first | go_keep | exact ⟨grown_cell hg7 hca, grown_cell hg7 hcb⟩)
                    (first | (go_at_call 8; refine hcc.out.mono ?_; rintro e w7 ⟨rfl, hg7⟩))
                  all_goals
                    have hg8 : wr.grownBy w7 none := ⟨hg7.os, hg7.tape, hg7.output, hg7.size, hg7.block⟩
                    go_wp2_with fail
                    go_roundw
                    case rel => exact ⟨q + 1, by omega, by go_num, grown_trans hg hg8, hCa.out.keep hg8, hCb.out.keep hg8, hs.kept hg8 (by simp)⟩
                    case measure => simp [intOf]; omega
                · have e2 : decide (xa < xb) = false := decide_eq_false hgt
                  have e3 : xb = xa := by omega
                  clear hgt hci hle
                  go_wp2_with fail
                  go_quiet (fail)
                  go_wp2_with fail
                  go_roundw
                  case rel => exact ⟨q + 1, by omega, by go_num, grown_drewN hg _, hCa.out.keep (grown_drewN (grown_refl _ _) _), hCb.out.keep (grown_drewN (grown_refl _ _) _), hs.drewN _⟩
                  case measure => simp [intOf]; omega
              · obtain rfl : m = q := by omega
                go_wp2_with fail
                refine (lives_any _).mono ?_; rintro e w5 ⟨rfl, hg5⟩
                go_wp2_with fail
                go_ret
                exact ⟨rfl, grown_trans hg hg5⟩
end Go.Proofs.Ytigghlnnhdoabaa
