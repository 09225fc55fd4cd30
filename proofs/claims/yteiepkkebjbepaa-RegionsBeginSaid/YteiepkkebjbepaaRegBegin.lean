/- RegionsBegin. -/
import Derived.Test.YteiepkkebjbepaaRegA
import Derived.Test.YteiepkkebjbepaaTwinB
namespace Go.Proofs.Yteiepkkebjbepaa
open Go.RowKit Go.Shelf Tk
set_option linter.unusedVariables false
set_option linter.unusedSimpArgs false

theorem SlA_take {w : World} {lo hi : Nat} {k : IntKind} {A : Option Addr} {xs : List Int} (h : SlA w lo hi k A xs) (m : Nat) : SlA w lo hi k A (xs.take m) := by
  refine ⟨h.1, ?_⟩
  rcases h.2 with rfl | ⟨b, o, hA, h1, h2, hc⟩
  · left; simp
  · right; exact ⟨b, o, hA, h1, h2, fun i hi => by
      have : i < xs.length := by simp at hi; omega
      rw [hc i this]; simp⟩
set_option maxRecDepth 100000 in
set_option maxHeartbeats 8000000 in
theorem regionsBegin_walk (A0 : Option Addr) (c0 : Nat) (xs : List Int) (hl0 : xs.length ≤ c0) (a1 : Int) (w1 : (Lit.int .u16 a1).wf = true) (w : World) (hs0 : SlA w 0 w.heap.size .u8 A0 xs) (hf : ∀ x ∈ xs, (Lit.int .u8 x).wf = true) (hb : xs.length * 1 ≤ 140737488351232) :
    Calls Try.prog 6 #[.slice A0 xs.length c0, .int .u16 a1] w fun e w' => e = .returned (.bool true) ∧ w.grownBy w' none := by
  have hfit : ∀ k, k < xs.length → 0 ≤ gd xs k ∧ gd xs k < 256 := fun k hk => wf_u8 (hf _ (gd_mem hk))
  have hfit := Lib.hid hfit
  clear hf
  obtain ⟨h0, h1⟩ := wf_u16 w1
  obtain ⟨q, rfl⟩ := Int.eq_ofNat_of_zero_le h0
  clear w1 h0
  by_cases hlen : 4096 < xs.length
  · have hd : decide ((4096 : Int) < (xs.length : Int)) = true := by simp; omega
    clear hlen
    go_enter Try.func6, Try.ntmps6
    go_wp2_with fail
    refine (alive_any _).mono ?_; rintro e wd ⟨rfl, hg⟩
    go_wp2_with fail
    refine (alive_any _).mono ?_; rintro e we ⟨rfl, hg2⟩
    go_wp2_with fail
    go_ret
    exact ⟨rfl, grown_trans hg hg2⟩
  · have hl : xs.length ≤ 4096 := by omega
    have hd : decide ((4096 : Int) < (xs.length : Int)) = false := by simp; omega
    clear hlen
    obtain ⟨r, hr, hr2⟩ : ∃ r : Nat, (q : Int) % ((4097 : Int) - (xs.length : Int)) = r ∧ r ≤ 4096 - xs.length := by
      refine ⟨q % (4097 - xs.length), ?_, by have := Nat.mod_lt q (show 0 < 4097 - xs.length by omega); omega⟩
      have : ((4097 : Int) - (xs.length : Int)) = ((4097 - xs.length : Nat) : Int) := by omega
      rw [this]; simp
    obtain ⟨n, hn, hn1, hn2⟩ : ∃ n : Nat, (xs.length : Int) + (r : Int) = n ∧ xs.length ≤ n ∧ n ≤ 4096 := ⟨xs.length + r, by omega, by omega, by omega⟩
    go_enter Try.func6, Try.ntmps6
    go_wp2_with fail
    refine (alive_any _).mono ?_; rintro e wd ⟨rfl, hg⟩
    have hsK := Lib.hid (fun wr (h : w.grownBy wr none) => hs0.kept h (by simp))
    go_wp2_with fail
    refine (twinBytes_any A0 c0 _ _ xs _ hl0 (by omega) (hsK.out _ hg)).mono ?_; rintro e wt ⟨g, c1, rfl, hc1, hc1m, hTw, hgt⟩
    have hgw := grown_trans hg hgt
    obtain ⟨hgb, hgs⟩ := hTw.lt
    have hws := hg.size
    obtain ⟨zs, hzs⟩ : ∃ zs, xs ++ List.replicate (n - xs.length) (0 : Int) = zs := ⟨_, rfl⟩
    have hzl : zs.length = n := by rw [← hzs]; simp; omega
    have hzx : Hid (zs.take xs.length = xs) := by show _ = _; rw [← hzs]; exact List.take_left' rfl
    have hz0 : Hid (∀ j, xs.length ≤ j → gd zs j = 0) := fun j hj => by
      rw [← hzs]; unfold gd; rw [List.getElem?_append_right hj, List.getElem?_replicate]; split <;> rfl
    have hnew := new_ok n hn2 (some ⟨g, 0, none⟩) c1 xs hn1 hfit.out wt _ _ hTw.sl
    rw [hzs] at hnew
    have hnew := Lib.hid hnew
    clear hzs hs0 hg hgt
    go_wp2_with fail
    refine hnew.out.mono ?_; rintro e w3 ⟨B, M, rfl, hR, hM, hB, hg3⟩
    have hT3 := hTw.keep hg3
    have hgw3 := grown_trans hgw hg3
    clear hnew hTw hgw hg3
    go_wp2_with fail
    go_loopw [9] (fun i wr => ∃ (j : Nat) (ts : List Int), j ≤ xs.length ∧ i = .int .i64 j ∧ ts.length = xs.length ∧ Mine wr wd.heap.size 5 .u8 (.slice (some ⟨g, 0, none⟩) xs.length c1) ts ∧ w3.grownBy wr (some g)) (fun i _ => xs.length - (intOf i).toNat)
    case atStart => exact ⟨0, xs, Nat.zero_le _, rfl, rfl, hT3, grown_refl _ _⟩
    case round =>
      obtain ⟨j, ts, hj, rfl, htl, hT, hg4⟩ := hrel
      by_cases hlt : j < xs.length
      · have hc := hT.cell (i := j) (by omega)
        have hfz := hT.frozen j
        go_wp2_with fail
        go_roundw
        case rel => exact ⟨j + 1, _, by omega, by go_num, by rw [List.length_set]; exact htl, hT.set j _, grown_trans hg4 (grownBy_setCell _ _ _ _)⟩
        case measure => simp [intOf]; omega
      · have hR4 := hR.kept hg4 (by simp; omega) (by simp; omega)
        have hgw4 := grown_step hgw3 hg4 (by omega)
        have hbk := bytes_ok B M zs (by omega) wr hR4
        rw [hzl] at hbk
        have hbk := Lib.hid hbk
        have hB4 := hR4.hdr.lt
        have hM4 := hR4.row.lt
        clear hT hg4 hR hgw3 hT3
        go_wp2_with fail
        refine hbk.out.mono ?_; rintro e w5 ⟨A2, c2, rfl, hc2, hb5, hg5⟩
        have hR5 := hR4.keep hg5
        have hgw5 := grown_trans hgw4 hg5
        have hs5 := SlA_take hb5.sl xs.length
        rw [hzx.out] at hs5
        have hnn : ((n : Int) != (n : Int)) = false := by simp
        have hw45 := hg5.size
        clear hbk hR4 hgw4 hg5
        go_wp2_with fail
        refine (sameBytes_any _ _ _ _ _ _ _ _ xs xs _ (by omega) hl0 (by omega) (by omega) hs5 (hsK.out _ hgw5)).mono ?_; rw [decide_eq_true rfl]; rintro e w6 ⟨rfl, nn, rfl⟩
        have hR6 : Reg (w5.drewN nn) B M zs := hR5.keep (grown_drewN (grown_refl _ _) nn)
        have hb6 := hb5.drewN nn
        have hgw6 := grown_drewN hgw5 nn
        obtain ⟨A2', c2', e2, -, -, hF⟩ := hb6.form
        simp only [Value.slice.injEq] at e2
        obtain ⟨rfl, -, rfl⟩ := e2
        obtain ⟨g2, hg2, hA2⟩ : ∃ g2, wr.heap.size ≤ g2 ∧ (0 < n → A2 = some ⟨g2, 0, none⟩) := by
          rcases hF with ⟨-, h9⟩ | ⟨g2, h9, h10, -⟩
          · exact ⟨_, Nat.le_refl _, fun h => by rw [h9] at hzl; simp at hzl; omega⟩
          · exact ⟨g2, h10, fun _ => h9⟩
        have hA2 := Lib.hid hA2
        generalize hW6 : w5.drewN nn = w6 at *
        clear hF hs5 hb5 hgw5 hR5 hW6
        go_wp2_with fail
        go_loopw [11] (fun i wr2 => ∃ (j : Nat) (bs : List Int), j ≤ n ∧ i = .int .i64 j ∧ bs.length = n ∧ Hid (∀ p, j ≤ p → gd bs p = gd zs p) ∧ Mine wr2 wr.heap.size 5 .u8 (.slice A2 n c2) bs ∧ w6.grownBy wr2 (some g2)) (fun i _ => n - (intOf i).toNat)
        case atStart => exact ⟨0, zs, Nat.zero_le _, rfl, hzl, fun p _ => rfl, hb6, grown_refl _ _⟩
        case round =>
          obtain ⟨j2, bs, hj2, rfl, hbl, hbz, hb7, hg7⟩ := hrel
          clear hb6
          by_cases hlt2 : j2 < n
          · obtain rfl := hA2.out (by omega)
            have hc := hb7.cell (i := j2) (by omega)
            have hfz := hb7.frozen j2
            have hbz2 : Hid (∀ p, j2 + 1 ≤ p → gd (bs.set j2 7) p = gd zs p) := fun p hp => by
              rw [← hbz.out p (by omega)]; unfold gd; rw [List.getElem?_set_ne (by omega)]
            by_cases hge : xs.length ≤ j2
            · have h7 : gd bs j2 = 0 := by rw [hbz.out j2 (Nat.le_refl _), hz0.out j2 hge]
              rw [h7] at hc
              clear h7
              go_wp2_with fail
              go_roundw
              case rel => exact ⟨j2 + 1, _, by omega, by go_num, by rw [List.length_set]; exact hbl, hbz2, hb7.set j2 7, grown_trans hg7 (grownBy_setCell _ _ _ _)⟩
              case measure => simp [intOf]; omega
            · go_wp2_with fail
              go_roundw
              case rel => exact ⟨j2 + 1, _, by omega, by go_num, by rw [List.length_set]; exact hbl, hbz2, hb7.set j2 7, grown_trans hg7 (grownBy_setCell _ _ _ _)⟩
              case measure => simp [intOf]; omega
          · have hR7 := hR6.kept hg7 (by simp; omega) (by simp; omega)
            have hgw7 := grown_step hgw6 hg7 (by have := hgw6.size; omega)
            have hbk := bytes_ok B M zs (by omega) _ hR7
            rw [hzl] at hbk
            have hbk := Lib.hid hbk
            have hnn2 : ((n : Int) == (n : Int)) = true := by simp
            clear hR6 hgw6 hb7 hg7
            go_wp2_with fail
            refine hbk.out.mono ?_; rintro e w8 ⟨A3, c3, rfl, hc3, hb8, hg8⟩
            have hgw8 := grown_trans hgw7 hg8
            have hs8 := SlA_take hb8.sl xs.length
            rw [hzx.out] at hs8
            clear hbk hgw7 hg8
            go_wp2_with fail
            refine (new_bad ((xs.length : Int) - 1) A0 xs.length c0 (by omega) (.inr (.inr (by omega))) _).mono ?_; rintro e w' ⟨rfl, rfl⟩
            go_wp2_with fail
            refine (sameBytes_any _ _ _ _ _ _ _ _ xs xs _ (by omega) hl0 (by omega) (by omega) hs8 (hsK.out _ hgw8)).mono ?_; rw [decide_eq_true rfl]; rintro e w9 ⟨rfl, nn, rfl⟩
            go_wp2_with fail
            go_ret
            exact ⟨rfl, grown_drewN hgw8 _⟩
end Go.Proofs.Yteiepkkebjbepaa
