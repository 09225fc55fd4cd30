/- HeirsRanks. -/
import Derived.Test.YtigghlnnhdoabaaDoorHeiRef
import Derived.Test.YtigghlnnhdoabaaDoorBkI8
import Derived.Test.YtigghlnnhdoabaaDoorSameI
namespace Go.Proofs.YtigghlnnhdoabaaDoor
open Go.RowKit Go.Shelf Tk Tk.Hei
set_option linter.unusedVariables false
set_option linter.unusedSimpArgs false
theorem ranks_both (bs ws : List Int) : ∃ (er : Int) (xs : List Int), xs.length ≤ 256 ∧
    (∀ (A0 A1 : Option Addr) (c0 c1 lo hi lo' hi' : Nat) (w : World), SlA w lo hi .i64 A0 bs → SlA w lo' hi' .i64 A1 ws → Calls Tryd.prog 6 #[.slice A0 bs.length c0, .slice A1 ws.length c1] w fun e w' =>
      ∃ A, e = .returned (.tuple #[.slice A xs.length xs.length, .int .i64 er]) ∧ Cut w' w.heap.size A xs ∧ w.grownBy w' none) ∧
    (∀ (A0 A1 : Option Addr) (c0 c1 lo hi lo' hi' : Nat) (w : World), SlA w lo hi .i64 A0 bs → SlA w lo' hi' .i64 A1 ws → Calls Tryd.prog 7 #[.slice A0 bs.length c0, .slice A1 ws.length c1] w fun e w' =>
      ∃ v, e = .returned (.tuple #[v, .int .i64 er]) ∧ Mine w' w.heap.size 3 .i64 v xs ∧ w.grownBy w' none) := by
  by_cases hok : Okr bs ws
  · by_cases hex : ∃ o, Least bs ws o
    · obtain ⟨xs, hxs⟩ := hex
      refine ⟨0, xs, by rw [hxs.len]; exact hok.few, fun A0 A1 c0 c1 lo hi lo' hi' w h0 h1 => (ranks_any A0 A1 c0 c1 lo hi lo' hi' bs ws w h0 h1).mono ?_, fun A0 A1 c0 c1 lo hi lo' hi' w h0 h1 => (refRanks_any A0 A1 c0 c1 lo hi lo' hi' bs ws w h0 h1).mono ?_⟩
      · rintro e w' (⟨h, -⟩ | ⟨-, out, A, rfl, hL, hC, hg⟩)
        · exact absurd hok h
        · obtain rfl := hL.uniq hxs
          exact ⟨A, rfl, hC, hg⟩
      · rintro e w' (⟨h, -⟩ | ⟨-, out, v, rfl, hL, hC, hg⟩)
        · exact absurd hok h
        · obtain rfl := hL.uniq hxs
          exact ⟨v, rfl, hC, hg⟩
    · refine ⟨0, [], by simp, fun A0 A1 c0 c1 lo hi lo' hi' w h0 h1 => (ranks_any A0 A1 c0 c1 lo hi lo' hi' bs ws w h0 h1).mono ?_, fun A0 A1 c0 c1 lo hi lo' hi' w h0 h1 => (refRanks_any A0 A1 c0 c1 lo hi lo' hi' bs ws w h0 h1).mono ?_⟩
      · rintro e w' (⟨h, -⟩ | ⟨-, out, A, rfl, hL, hC, hg⟩)
        · exact absurd hok h
        · exact absurd ⟨_, hL⟩ hex
      · rintro e w' (⟨h, -⟩ | ⟨-, out, v, rfl, hL, hC, hg⟩)
        · exact absurd hok h
        · exact absurd ⟨_, hL⟩ hex
  · refine ⟨1, [], by simp, fun A0 A1 c0 c1 lo hi lo' hi' w h0 h1 => (ranks_any A0 A1 c0 c1 lo hi lo' hi' bs ws w h0 h1).mono ?_, fun A0 A1 c0 c1 lo hi lo' hi' w h0 h1 => (refRanks_any A0 A1 c0 c1 lo hi lo' hi' bs ws w h0 h1).mono ?_⟩
    · rintro e w' (⟨-, rfl, hg⟩ | ⟨h, -⟩)
      · exact ⟨none, rfl, .inl ⟨rfl, rfl⟩, hg⟩
      · exact absurd h hok
    · rintro e w' (⟨-, rfl, hg⟩ | ⟨h, -⟩)
      · exact ⟨_, rfl, Mine.nil _ _ _ _, hg⟩
      · exact absurd h hok
theorem mine_blk {w : World} {base : Nat} {v : Value} {xs : List Int} (h : Mine w base 3 .i64 v xs) : ∀ b, v.ownBlock = some b → base ≤ b ∧ b < w.heap.size := fun b hb => World.ownsRow.lt h b hb
theorem cut_lg {w : World} {base : Nat} {A : Option Addr} {xs : List Int} (h : Cut w base A xs) : Lg w 3 .i64 (.slice A xs.length xs.length) xs ∧ (∀ b, (Value.slice A xs.length xs.length).ownBlock = some b → base ≤ b ∧ b < w.heap.size) := by
  rcases h with ⟨rfl, rfl⟩ | ⟨g, c, rfl, h1, h2, hM⟩
  · exact ⟨.inl ⟨rfl, rfl⟩, fun b hb => by cases hb⟩
  · have hR := (Rw.of_own hM).1.cut xs.length (Nat.le_refl _) (Nat.le_refl _) h1
    rw [List.take_length] at hR
    exact ⟨.inr ⟨g, _, rfl, hR⟩, fun b hb => by cases hb; exact hM.lt⟩
theorem twin_lg {w : World} {base g c n : Nat} {xs : List Int} (hn : xs.length = n) (h : Mine w base 3 .i64 (.slice (some ⟨g, 0, none⟩) (n + 1) c) (xs ++ [77])) (hc : n < c) : Lg w 3 .i64 (.slice (some ⟨g, 0, none⟩) n c) xs := by
  subst hn
  have h' : w.ownsRow base 3 1 (.slice (some ⟨g, 0, none⟩) (xs.length + 1) c) (xs ++ [77]).length ((xs ++ [77]).map (Value.int .i64)) := h
  have hR := (Rw.of_own h').1.cut (c' := c) xs.length (by simp) (by omega) (Nat.le_refl _)
  rw [List.take_left' rfl] at hR
  exact .inr ⟨g, c, rfl, hR⟩
theorem same_cut {w : World} {b b' k : Nat} {A : Option Addr} {v : Value} {xs : List Int} (hk : xs.length = k) (hm : k ≤ 1000) (hu : Cut w b A xs) (hv : Mine w b' 3 .i64 v xs) :
    Calls Tryd.prog 8 #[.slice A k k, v] w fun e w' => e = .returned (.bool true) ∧ w.grownBy w' none := by
  subst hk
  obtain ⟨B, d, rfl, hd, -⟩ := hv.form
  exact (sameInts_any A B xs.length d _ _ _ _ xs xs w (Nat.le_refl _) hd (by omega) (by omega) hu.sl hv.sl).mono fun e w' ⟨he, n, hw⟩ => ⟨by rw [he, decide_eq_true rfl], by rw [← hw]; exact grown_drewN (grown_refl _ _) n⟩
theorem left_n {w : World} {g c d base lo hi n : Nat} {A : Option Addr} {xs : List Int} (hn : xs.length = n) (hc : n < c) (hl : n ≤ d) (hm : n ≤ 1000)
    (hM : Mine w base 3 .i64 (.slice (some ⟨g, 0, none⟩) (n + 1) c) (xs ++ [77])) (hs : SlA w lo hi .i64 A xs) :
    Calls Tryd.prog 9 #[.slice (some ⟨g, 0, none⟩) n c, .slice A n d] w fun e w' => e = .returned (.bool true) ∧ w.grownBy w' none := by
  subst hn
  exact (leftInts_any g c d base lo hi A xs w hc hl (by omega) hM hs).mono fun e w' ⟨he, n, hw⟩ => ⟨he, by rw [← hw]; exact grown_drewN (grown_refl _ _) n⟩
theorem apart_of {u v : Value} {p q r s : Nat} (hu : ∀ b, u.ownBlock = some b → p ≤ b ∧ b < q) (hv : ∀ b, v.ownBlock = some b → r ≤ b ∧ b < s) (h : q ≤ r) : Apart v u := by
  rcases e : v.ownBlock with _ | k
  · exact .inl e
  · right
    intro e2
    have h1 := (hv k e).1
    have h2 := (hu k (by rw [← e2, e])).2
    omega
set_option maxRecDepth 100000 in
set_option maxHeartbeats 4000000 in
theorem heirsRanks_walk (A0 : Option Addr) (c0 : Nat) (bs : List Int) (hl0 : bs.length ≤ c0) (A1 : Option Addr) (c1 : Nat) (ws : List Int) (hl1 : ws.length ≤ c1) (w : World)
    (hs0 : SlA w 0 w.heap.size .i64 A0 bs) (hf0 : ∀ x ∈ bs, (Lit.int .i64 x).wf = true) (hb0 : bs.length * 8 ≤ 140737488351232) (hs1 : SlA w 0 w.heap.size .i64 A1 ws) (hf1 : ∀ x ∈ ws, (Lit.int .i64 x).wf = true) (hb1 : ws.length * 8 ≤ 140737488351232) :
    Calls Tryd.prog 3 #[.slice A0 bs.length c0, .slice A1 ws.length c1] w fun e w' => e = .returned (.bool true) ∧ w.grownBy w' none := by
  clear hf0 hf1 hb0 hb1
  by_cases hlen : bs.length ≤ 1000 ∧ ws.length ≤ 1000
  · obtain ⟨hx, hy⟩ := hlen
    have hd : decide ((1000 : Int) < (bs.length : Int)) = false := decide_eq_false (by omega)
    have hd' : decide ((1000 : Int) < (ws.length : Int)) = false := decide_eq_false (by omega)
    have htw0 := Lib.hid (twinInts_any A0 c0 0 w.heap.size bs w hl0 (by omega) hs0)
    have hK0 := Lib.hid (fun wr (h : w.grownBy wr none) => hs0.kept h (by simp))
    have hK1 := Lib.hid (fun wr (h : w.grownBy wr none) => hs1.kept h (by simp))
    have htw1 := Lib.hid (fun wr (h : w.grownBy wr none) => twinInts_any A1 c1 0 w.heap.size ws wr hl1 (by omega) (hK1.out wr h))
    obtain ⟨er, xs, hxl, hRa, hRb⟩ := ranks_both bs ws
    replace hRa := Lib.hid hRa
    replace hRb := Lib.hid hRb
    obtain ⟨n, hn⟩ : ∃ n, bs.length = n := ⟨_, rfl⟩
    obtain ⟨m, hm⟩ : ∃ m, ws.length = m := ⟨_, rfl⟩
    obtain ⟨k, hk⟩ : ∃ k, xs.length = k := ⟨_, rfl⟩
    rw [hn] at htw0 hx hd hl0 hRa hRb ⊢
    rw [hm] at htw1 hy hd' hl1 hRa hRb ⊢
    rw [hk] at hRa hxl
    replace hn := Lib.hid hn
    replace hm := Lib.hid hm
    replace hk := Lib.hid hk
    clear hs0 hs1
    go_enter Tryd.func3, Tryd.ntmps3
    go_wp2_with fail
    refine htw0.out.mono ?_; rintro e wa ⟨g0, d0, rfl, hd00, -, hM0, hga⟩
    have hL0 : Hid (Mine wa w.heap.size 3 .i64 (.slice (some ⟨g0, 0, none⟩) (n + 1) d0) (bs ++ [77])) := hM0
    clear hM0
    go_wp2_with fail
    refine (htw1.out wa hga).mono ?_; rintro e wb ⟨g1, d1, rfl, hd11, -, hM1, hgb⟩
    have hL1 : Hid (Mine wb wa.heap.size 3 .i64 (.slice (some ⟨g1, 0, none⟩) (m + 1) d1) (ws ++ [77])) := hM1
    have hL0b := Lib.hid (hL0.out.keep hgb)
    have hg2 := Lib.hid (grown_trans hga hgb)
    have hb0 := Lib.hid (mine_blk hL0.out)
    clear hM1
    go_wp2_with fail
    refine (hRa.out (some ⟨g0, 0, none⟩) (some ⟨g1, 0, none⟩) d0 d1 w.heap.size wb.heap.size wa.heap.size wb.heap.size wb ?_ ?_).mono ?_
    · exact (Mine.take (c := d0) (xs := bs) (x := 77) (by rw [hn.out]; exact hL0b.out)).sl
    · exact (Mine.take (c := d1) (xs := ws) (x := 77) (by rw [hm.out]; exact hL1.out)).sl
    rintro e wc ⟨A, rfl, hC, hgc⟩
    have hL0c := Lib.hid (hL0b.out.keep hgc)
    have hL1c := Lib.hid (hL1.out.keep hgc)
    have hg3 := Lib.hid (grown_trans hg2.out hgc)
    have hb1 := Lib.hid (mine_blk hL1.out)
    have hgc' := Lib.hid hgc
    have hC' := Lib.hid hC
    have hgb' := Lib.hid hgb
    have hga' := Lib.hid hga
    clear hgc hC hgb hga
    go_wp2_with fail
    refine (hRb.out A0 A1 c0 c1 0 w.heap.size 0 w.heap.size wc (hK0.out _ hg3.out) (hK1.out _ hg3.out)).mono ?_
    rintro e wd ⟨vc, rfl, hMc, hgd⟩
    have hC4 := Lib.hid (hC'.out.keep hgd)
    have hL0d := Lib.hid (hL0c.out.keep hgd)
    have hL1d := Lib.hid (hL1c.out.keep hgd)
    have hg4 := Lib.hid (grown_trans hg3.out hgd)
    have hMc' := Lib.hid hMc
    have hgd' := Lib.hid hgd
    clear hMc hgd
    have hee : (er != er) = false := by simp
    go_wp2_with fail
    refine (same_cut hk.out (by omega) hC4.out hMc'.out).mono ?_; rintro e w5 ⟨rfl, hg5⟩
    have z5 := Lib.hid hg5.size
    have hC5 := Lib.hid (hC4.out.keep hg5)
    have hL05 := Lib.hid (hL0d.out.keep hg5)
    have hL15 := Lib.hid (hL1d.out.keep hg5)
    have hG5 := Lib.hid (grown_trans hg4.out hg5)
    clear hg5
    go_wp2_with fail
    refine (left_n hn.out hd00 hl0 hx hL05.out (hK0.out _ hG5.out)).mono ?_; rintro e w6 ⟨rfl, hg6⟩
    have z6 := Lib.hid hg6.size
    have hC6 := Lib.hid (hC5.out.keep hg6)
    have hL06 := Lib.hid (hL05.out.keep hg6)
    have hL16 := Lib.hid (hL15.out.keep hg6)
    have hG6 := Lib.hid (grown_trans hG5.out hg6)
    clear hg6
    go_wp2_with fail
    refine (left_n hm.out hd11 hl1 hy hL16.out (hK1.out _ hG6.out)).mono ?_; rintro e w7 ⟨rfl, hg7⟩
    have hsz : Hid (wd.heap.size ≤ w7.heap.size) := Nat.le_trans z5.out (Nat.le_trans z6.out hg7.size)
    have hC7 := Lib.hid (hC6.out.keep hg7)
    have hL07 := Lib.hid (hL06.out.keep hg7)
    have hL17 := Lib.hid (hL16.out.keep hg7)
    have hG7 := Lib.hid (grown_trans hG6.out hg7)
    clear hg7
    go_wp2_with fail
    have wB : BkInt.Wl w7 w.heap.size wa.heap.size (.slice (some ⟨g0, 0, none⟩) n d0) bs := ⟨twin_lg hn.out hL07.out hd00, hb0.out⟩
    have wW : BkInt.Wl w7 wa.heap.size wb.heap.size (.slice (some ⟨g1, 0, none⟩) m d1) ws := ⟨twin_lg hm.out hL17.out hd11, hb1.out⟩
    have hc7 := cut_lg hC7.out
    have hcc := cut_lg hC'.out
    rw [hk.out] at hc7 hcc
    have wA : BkInt.Wl w7 wb.heap.size wc.heap.size (.slice A k k) xs := ⟨hc7.1, hcc.2⟩
    have s1 : w.heap.size ≤ wa.heap.size := hga'.out.size
    have s2 : wa.heap.size ≤ wb.heap.size := hgb'.out.size
    have s3 : wb.heap.size ≤ wc.heap.size := hgc'.out.size
    have s4 : wc.heap.size ≤ w7.heap.size := by
      have h1 := hgd'.out.size
      have h2 := hG7.out.size
      exact Nat.le_trans h1 hsz.out
    have hz := BkInt.BkU.made (base := w.heap.size) w7 38 hG7.out.size
    have hgk := World.grownBy_alloc w7 (.cells #[.int .i64 0, .slice none 0 0, .slice none 0 0, .slice none 0 0, .slice none 0 0, .slice none 0 0, .slice none 0 0, .slice none 0 0, .slice none 0 0] 38) none
    have wB8 := wB.keep hgk
    have wW8 := Lib.hid (wW.keep hgk)
    have wA8 := Lib.hid (wA.keep hgk)
    have hG8 := Lib.hid (grown_trans hG7.out hgk)
    have apW : Hid (Apart (.slice (some ⟨g1, 0, none⟩) m d1) (.slice (some ⟨g0, 0, none⟩) n d0)) := wW.apart wB (Nat.le_refl _)
    have apA : Hid (Apart (.slice A k k) (.slice (some ⟨g0, 0, none⟩) n d0) ∧ Apart (.slice A k k) (.slice (some ⟨g1, 0, none⟩) m d1)) := ⟨wA.apart wB s2, wA.apart wW (Nat.le_refl _)⟩
    refine (BkInt.ints2_ok hz (by decide) wB8 (by rw [hn.out]; omega) (fun i hi => absurd hi (Nat.not_lt_zero _)) (Nat.le_refl _) (by omega)).mono ?_
    rintro e w8 ⟨⟨y, rfl⟩, hP⟩
    obtain ⟨rv1, hb1', hf1⟩ := hP
    have wW9 := Lib.hid (wW8.out.fr hf1 (by omega))
    have wA9 := Lib.hid (wA8.out.fr hf1 (by omega))
    have hG9 := Lib.hid (BkInt.grown_fr hG8.out hf1 (fun k hk => by omega))
    have hB9 := Lib.hid hb1'
    clear wB wW wA hc7 hcc hz hgk wB8 hf1 hb1'
    go_wp2_with fail
    refine (BkInt.ints2_ok hB9.out (by decide) wW9.out (by rw [hm.out]; omega) (fun i hi => by
      obtain rfl : i = 0 := by omega
      rw [BkInt.up_same]; exact apW.out) (by omega) (by omega)).mono ?_
    rintro e w9 ⟨⟨y, rfl⟩, hP⟩
    obtain ⟨rv2, hb2', hf2⟩ := hP
    have wA10 := Lib.hid (wA9.out.fr hf2 (by omega))
    have hG10 := Lib.hid (BkInt.grown_fr hG9.out hf2 (fun k hk => by omega))
    have hB10 := Lib.hid hb2'
    clear hf2 hb2'
    go_wp2_with fail
    refine (BkInt.ints2_ok hB10.out (by decide) wA10.out (by rw [hk.out]; omega) (fun i hi => by
      rcases (by omega : i = 0 ∨ i = 1) with rfl | rfl
      · rw [BkInt.up_ne _ _ (by decide), BkInt.up_same]; exact apA.out.1
      · rw [BkInt.up_same]; exact apA.out.2) (by omega) (by omega)).mono ?_
    rintro e w10 ⟨⟨y, rfl⟩, hP⟩
    obtain ⟨rv3, hb3', hf3⟩ := hP
    have hG11 := Lib.hid (BkInt.grown_fr hG10.out hf3 (fun k hk => by omega))
    have hB11 := Lib.hid hb3'
    clear hf3 hb3'
    go_wp2_with fail
    refine (BkInt.apart_own hB11.out.toBkL (by decide)).mono ?_
    rintro e w11 ⟨rfl, hfA⟩
    have hG12 := Lib.hid (BkInt.grown_fr hG11.out hfA (fun k hk => hk))
    clear hfA
    go_wp2_with fail
    refine (lives_any _).mono ?_; rintro e w12 ⟨rfl, hg12⟩
    have hG13 := Lib.hid (grown_trans hG12.out hg12)
    clear hg12
    go_wp2_with fail
    go_ret
    exact ⟨rfl, hG13.out⟩
  · have hcs : decide ((1000 : Int) < (bs.length : Int)) = true ∨ (decide ((1000 : Int) < (bs.length : Int)) = false ∧ decide ((1000 : Int) < (ws.length : Int)) = true) := by
      simp only [decide_eq_true_eq, decide_eq_false_iff_not]; omega
    clear hlen hs0 hs1
    rcases hcs with hd | ⟨hd, hd'⟩
    all_goals
      go_enter Tryd.func3, Tryd.ntmps3
      go_wp2_with fail
      refine (lives_any _).mono ?_; rintro e wd ⟨rfl, hg⟩
      go_wp2_with fail
      go_ret
      exact ⟨rfl, hg⟩
end Go.Proofs.YtigghlnnhdoabaaDoor
