/- HandlesTwo. -/
import Derived.Test.YtoocpofcmnnlfaaHanAny
namespace Go.Proofs.Ytoocpofcmnnlfaa
open Go.RowKit Go.Shelf Tk
set_option linter.unusedVariables false
set_option linter.unusedSimpArgs false

set_option maxRecDepth 100000 in
set_option maxHeartbeats 8000000 in
theorem handlesTwo_walk (a0 : Int) (w0 : (Lit.int .u8 a0).wf = true) (A1 : Option Addr) (c1 : Nat) (xs : List Int) (hl1 : xs.length ≤ c1) (a2 : Int) (w2 : (Lit.int .u32 a2).wf = true) (w : World) (hs0 : SlA w 0 w.heap.size .u8 A1 xs) (hf : ∀ x ∈ xs, (Lit.int .u8 x).wf = true) (hb : xs.length * 1 ≤ 140737488351232) :
    Calls Try.prog 9 #[.int .u8 a0, .slice A1 xs.length c1, .int .u32 a2] w fun e w' => e = .returned (.bool true) ∧ w.grownBy w' none := by
  have hfit : Hid (∀ k, k < xs.length → 0 ≤ gd xs k ∧ gd xs k < 256) := fun k hk => wf_u8 (hf _ (gd_mem hk))
  clear hf
  obtain ⟨h0, h1⟩ := wf_u8 w0
  obtain ⟨q, rfl⟩ := Int.eq_ofNat_of_zero_le h0
  obtain ⟨h2, h3⟩ := wf_u32 w2
  obtain ⟨h, rfl⟩ := Int.eq_ofNat_of_zero_le h2
  have hh : h < 4294967296 := by omega
  clear w0 h0 w2 h2 h3
  by_cases hlen : 60 < xs.length
  · go_enter Try.func9, Try.ntmps9
    go_wp2_with fail
    refine (alive_any _).mono ?_; rintro e wd ⟨rfl, hg⟩
    go_wp2_with fail
    refine (alive_any _).mono ?_; rintro e we ⟨rfl, hg2⟩
    go_wp2_with fail
    go_ret
    exact ⟨rfl, grown_trans hg hg2⟩
  · obtain ⟨n, hn, hn1, hn2⟩ : ∃ n : Nat, (1 : Int) + (q : Int) % 8 = n ∧ 1 ≤ n ∧ n ≤ 8 := ⟨1 + q % 8, by omega, by omega, by omega⟩
    go_enter Try.func9, Try.ntmps9
    go_wp2_with fail
    refine (alive_any _).mono ?_; rintro e wd ⟨rfl, hg⟩
    have hsz1 := hg.size
    go_wp2_with fail
    try rw [hn]
    refine (new_any n hn1 (by omega) _).mono ?_; rintro e wa ⟨rfl, hA, hga, hsz⟩
    have hgw := grown_trans hg hga
    clear hg hga
    go_wp2_with fail
    try rw [hn]
    refine (new_any n hn1 (by omega) _).mono ?_; rintro e wb ⟨rfl, hB, hgb, hszb⟩
    have hA := hA.kept hgb (by simp)
    have hgw := grown_trans hgw hgb
    have hs2 := Lib.hid (fun wr (h : w.grownBy wr none) => hs0.kept h (by simp))
    have hgd := Lib.hid (tab0_good (n := n) hn1 (by omega))
    clear hs0
    rw [hsz] at hB
    go_wp2_with fail
    try rw [hsz]
    obtain ⟨B, hBB⟩ : ∃ B, wd.heap.size = B := ⟨_, rfl⟩
    have hBw : w.heap.size ≤ B := by omega
    rw [hBB] at hA hB ⊢
    clear hBB hsz hszb hn hgb
    go_loopw [12, 13, 14, 15, 16, 17, 18] (fun i _ _ _ _ _ _ wr => ∃ (k : Nat) (T : Tab), k ≤ xs.length ∧ i = .int .i64 k ∧ Hid T.good ∧ Arr wr B 513 T.v ∧ Arr wr (B + 1) 513 T.v ∧ w.grownBy wr none) (fun i _ _ _ _ _ _ _ => xs.length - (intOf i).toNat)
    case atStart => exact ⟨0, _, Nat.zero_le _, rfl, hgd, hA, hB, hgw⟩
    case round =>
      obtain ⟨k, T, hk, rfl, hgT, hA1, hB1, hg1⟩ := hrel
      clear hA hB hgw hgd
      by_cases hlt : k < xs.length
      · obtain ⟨b, o, rfl, hc⟩ := (hs2.out _ hg1).at hlt
        obtain ⟨f1, f2⟩ := hfit.out k hlt
        obtain ⟨y, hy0⟩ := Int.eq_ofNat_of_zero_le f1
        rw [hy0] at hc f2
        have hy := Lib.hid hy0
        clear hy0 f1
        go_wp2_with fail
        refine (list_any T hgT.out.1.1 hgT.out.1.2.2 _ _ hA1).mono ?_; rintro e w2 ⟨A, c, rfl, hlc, hsl, hg2⟩
        have hg3 := grown_trans hg1 hg2
        have hc2 := (hs2.out _ hg3).cell hlt
        rw [hy.out] at hc2
        have hA2 := hA1.kept hg2 (by simp)
        have hB2 := hB1.kept hg2 (by simp)
        have hL := Lib.hid T.list_len
        have hLm : T.list.length ≤ 256 := Nat.le_trans (upto_len T T.many) hgT.out.1.2.2
        clear hA1 hB1 hg2 hg1 hc
        by_cases hx : y % 2 = 0
        · have hx' : ((y : Int) % 2 == 0) = true := by rw [beq_iff_eq]; omega
          clear hsl
          go_wp2_with fail
          refine (make_any T hgT.out.1 _ _ hA2).mono ?_; rintro e w3 ⟨rfl, hA3, hg4⟩
          have hB3 := hB2.kept hg4 (by simp)
          have hg5 := grown_step hg3 hg4 hBw
          go_wp2_with fail
          refine (make_any T hgT.out.1 _ _ hB3).mono ?_; rintro e w4 ⟨rfl, hB4, hg6⟩
          have hA4 := hA3.kept hg6 (by simp)
          have hg7 := grown_step hg5 hg6 (by omega)
          have hgd := Lib.hid (Tab.good_make hgT.out)
          have hm1 : ((T.make.2.1 : Int) != (T.make.2.1 : Int)) = false := by simp
          have hm2 : ((T.make.2.2 : Int) != (T.make.2.2 : Int)) = false := by simp
          go_wp2_with fail
          go_roundw
          case rel => exact ⟨k + 1, _, by omega, by go_num, hgd, hA4, hB4, hg7⟩
          case measure => simp [intOf]; omega
        · have hx' : ((y : Int) % 2 == 0) = false := by rw [beq_eq_false_iff_ne]; omega
          by_cases hl0 : 0 < T.list.length
          · have hl0' : ((T.list.length : Int) == 0) = false := by rw [beq_eq_false_iff_ne]; omega
            obtain ⟨i, hi, hi2⟩ : ∃ i : Nat, ((y : Int) / 2 % (T.list.length : Int)) = i ∧ i < T.list.length := by
              have : ((y : Int) / 2 % (T.list.length : Int)) = ((y / 2 % T.list.length : Nat) : Int) := by simp
              exact ⟨_, this, Nat.mod_lt _ hl0⟩
            obtain ⟨b2, o2, rfl, hc3⟩ := hsl.at hi2
            have hi4 := Lib.hid (show i < T.ps.length by rw [← hL.out]; exact hi2)
            clear hsl
            go_wp2_with fail
            refine (drop_at T hgT.out i hi4.out _ _ rfl _ hA2).mono ?_; rintro e w3 ⟨rfl, hA3, hg4⟩
            have hB3 := hB2.kept hg4 (by simp)
            have hg5 := grown_step hg3 hg4 hBw
            go_wp2_with fail
            refine (drop_at T hgT.out i hi4.out _ _ rfl _ hB3).mono ?_; rintro e w4 ⟨rfl, hB4, hg6⟩
            have hA4 := hA3.kept hg6 (by simp)
            have hg7 := grown_step hg5 hg6 (by omega)
            go_wp2_with fail
            go_roundw
            case rel => exact ⟨k + 1, _, by omega, by go_num, Lib.hid (Tab.good_let hgT.out _), hA4, hB4, hg7⟩
            case measure => simp [intOf]; omega
          · have hl0' : ((T.list.length : Int) == 0) = true := by rw [beq_iff_eq]; omega
            clear hsl
            go_wp2_with fail
            refine (make_any T hgT.out.1 _ _ hA2).mono ?_; rintro e w3 ⟨rfl, hA3, hg4⟩
            have hB3 := hB2.kept hg4 (by simp)
            have hg5 := grown_step hg3 hg4 hBw
            go_wp2_with fail
            refine (make_any T hgT.out.1 _ _ hB3).mono ?_; rintro e w4 ⟨rfl, hB4, hg6⟩
            have hA4 := hA3.kept hg6 (by simp)
            have hg7 := grown_step hg5 hg6 (by omega)
            have hgd := Lib.hid (Tab.good_make hgT.out)
            have hm1 : ((T.make.2.1 : Int) != (T.make.2.1 : Int)) = false := by simp
            have hm2 : ((T.make.2.2 : Int) != (T.make.2.2 : Int)) = false := by simp
            go_wp2_with fail
            go_roundw
            case rel => exact ⟨k + 1, _, by omega, by go_num, hgd, hA4, hB4, hg7⟩
            case measure => simp [intOf]; omega
      · have hLm : T.list.length ≤ 256 := Nat.le_trans (upto_len T T.many) hgT.out.1.2.2
        have hBl := hB1.lt
        go_wp2_with fail
        refine (list_any T hgT.out.1.1 hgT.out.1.2.2 _ _ hA1).mono ?_; rintro e w2 ⟨A, c, rfl, hlc, hsl, hg2⟩
        have hg3 := grown_trans hg1 hg2
        have hA2 := hA1.kept hg2 (by simp)
        have hB2 := hB1.kept hg2 (by simp)
        have hB2l := hB2.lt
        clear hA1 hB1 hg1 hg2
        go_wp2_with fail
        refine (list_any T hgT.out.1.1 hgT.out.1.2.2 _ _ hB2).mono ?_; rintro e w3 ⟨A3, c3, rfl, hlc3, hsl3, hg4⟩
        have hg5 := grown_trans hg3 hg4
        have hA3 := hA2.kept hg4 (by simp)
        have hB3 := hB2.kept hg4 (by simp)
        have hslb := hsl.kept hg4 (by simp)
        clear hA2 hB2 hg3 hg4
        go_wp2_with fail
        refine (sameWords_any _ _ _ _ _ _ _ _ T.list T.list _ hlc3 hlc (by omega) (by omega) hsl3 hslb).mono ?_; rw [decide_eq_true rfl]; rintro e w4 ⟨rfl, nn, rfl⟩
        have hA4 := Drawn.arr ⟨nn, rfl⟩ hA3
        have hB4 := Drawn.arr ⟨nn, rfl⟩ hB3
        have hslc := Drawn.sl ⟨nn, rfl⟩ hslb
        have hg6 := grown_drewN hg5 nn
        clear hA3 hB3 hslb hsl hsl3 hg5
        generalize w3.drewN nn = W at *
        have hsz : w2.heap.size ≤ W.heap.size := hslc.1
        obtain ⟨e0, he0⟩ : ∃ e0, (T.place h).2 = e0 := ⟨_, rfl⟩
        have he1 := Lib.hid he0
        have he56 : e0 = 0 ∨ e0 = 5 ∨ e0 = 6 := by have := place_err T h; omega
        have hgd2 := Lib.hid (Tab.good_drop hgT.out h)
        have hdo : Hid (e0 ≠ 0 → T.drop h = T) := fun hne => Tab.drop_out (by rw [he0]; exact hne)
        clear he0
        rcases he56 with rfl | he56
        · go_wp2_with fail
          refine (drop_is T _ h 0 hgT.out.1 he1.out rfl _ _ rfl hh _ hA4).mono ?_; rintro e w5 ⟨rfl, hA5, hg7⟩
          have hB5 := hB4.kept hg7 (by simp)
          have hsld := hslc.kept hg7 (by intro b hb; cases hb; left; omega)
          have hg8 := grown_step hg6 hg7 hBw
          go_wp2_with fail
          refine (make_any _ hgd2.out.1 _ _ hA5).mono ?_; rintro e w6 ⟨rfl, hA6, hg9⟩
          have hB6 := hB5.kept hg9 (by simp)
          have hsle := hsld.kept hg9 (by intro b hb; cases hb; left; omega)
          have hg10 := grown_step hg8 hg9 hBw
          go_wp2_with fail
          refine (list_any T hgT.out.1.1 hgT.out.1.2.2 _ _ hB6).mono ?_; rintro e w7 ⟨A7, c7, rfl, hlc7, hsl7, hg11⟩
          have hslf := hsle.kept hg11 (by simp)
          go_wp2_with fail
          refine (sameWords_any _ _ _ _ _ _ _ _ T.list T.list _ hlc7 hlc (by omega) (by omega) hsl7 hslf).mono ?_; rw [decide_eq_true rfl]; rintro e w8 ⟨rfl, nn, rfl⟩
          go_wp2_with fail
          go_ret
          exact ⟨rfl, grown_drewN (grown_trans hg10 hg11) _⟩
        · have hT : Hid (T.drop h = T) := hdo.out (by omega)
          clear hdo
          rcases he56 with rfl | rfl
          all_goals
            go_wp2_with fail
            refine (drop_is T T h _ hgT.out.1 he1.out hT.out _ _ rfl hh _ hA4).mono ?_; rintro e w5 ⟨rfl, hA5, hg7⟩
            have hB5 := hB4.kept hg7 (by simp)
            have hsld := hslc.kept hg7 (by intro b hb; cases hb; left; omega)
            have hg8 := grown_step hg6 hg7 hBw
            go_wp2_with fail
            refine (list_any T hgT.out.1.1 hgT.out.1.2.2 _ _ hA5).mono ?_; rintro e wz ⟨Az, cz, rfl, hlcz, hslz, hgz⟩
            have hAz := hA5.kept hgz (by simp)
            have hBz := hB5.kept hgz (by simp)
            have hsly := hsld.kept hgz (by simp)
            have hgy := grown_trans hg8 hgz
            go_wp2_with fail
            refine (sameWords_any _ _ _ _ _ _ _ _ T.list T.list _ hlcz hlc (by omega) (by omega) hslz hsly).mono ?_; rw [decide_eq_true rfl]; rintro e wy ⟨rfl, nm, rfl⟩
            have hA5 := Drawn.arr ⟨nm, rfl⟩ hAz
            have hB5 := Drawn.arr ⟨nm, rfl⟩ hBz
            have hsld := Drawn.sl ⟨nm, rfl⟩ hsly
            have hg8 := grown_drewN hgy nm
            generalize wz.drewN nm = V at *
            go_wp2_with fail
            refine (make_any _ hgT.out.1 _ _ hA5).mono ?_; rintro e w6 ⟨rfl, hA6, hg9⟩
            have hB6 := hB5.kept hg9 (by simp)
            have hsle := hsld.kept hg9 (by intro b hb; cases hb; left; omega)
            have hg10 := grown_step hg8 hg9 hBw
            go_wp2_with fail
            refine (list_any T hgT.out.1.1 hgT.out.1.2.2 _ _ hB6).mono ?_; rintro e w7 ⟨A7, c7, rfl, hlc7, hsl7, hg11⟩
            have hslf := hsle.kept hg11 (by simp)
            go_wp2_with fail
            refine (sameWords_any _ _ _ _ _ _ _ _ T.list T.list _ hlc7 hlc (by omega) (by omega) hsl7 hslf).mono ?_; rw [decide_eq_true rfl]; rintro e w8 ⟨rfl, nn, rfl⟩
            go_wp2_with fail
            go_ret
            exact ⟨rfl, grown_drewN (grown_trans hg10 hg11) _⟩
end Go.Proofs.Ytoocpofcmnnlfaa
