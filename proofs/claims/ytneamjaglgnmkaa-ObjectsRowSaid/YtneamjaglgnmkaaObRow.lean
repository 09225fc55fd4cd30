/- ObjectsRow: what is put to a queue, as far as there is room, is got in that order. -/
import Derived.Test.YtneamjaglgnmkaaObV
import Derived.Test.YtneamjaglgnmkaaSameW
namespace Go.Proofs.Ytneamjaglgnmkaa
open Go.RowKit Go.Shelf Tk
set_option linter.unusedVariables false
set_option linter.unusedSimpArgs false
theorem see_row (k : Nat) (a b n o : Int) (row owners : Value) (w : World) : (Instr.field 39 (thV k a b n o row owners) 4).run Try.prog w = .ok row w := by kernel_rfl
theorem meas_r (n k : Nat) (h : k < n) : n - (intOf (.int .i64 ((k : Int) + 1))).toNat < n - (intOf (.int .i64 (k : Int))).toNat := by simp [intOf]; omega
theorem SlA_take {w : World} {lo hi : Nat} {k : IntKind} {A : Option Addr} {xs : List Int} (h : SlA w lo hi k A xs) (n : Nat) : SlA w lo hi k A (xs.take n) := by
  refine ⟨h.1, ?_⟩
  rcases h.2 with rfl | ⟨b, o, hA, h1, h2, hc⟩
  · exact .inl (by simp)
  · refine .inr ⟨b, o, hA, h1, h2, fun i hi => ?_⟩
    have hi' : i < xs.length := by simp at hi; omega
    rw [hc i hi']; simp
set_option maxRecDepth 100000 in
set_option maxHeartbeats 8000000 in
theorem objectsRow_walk (a : Int) (wa : (Lit.int .u8 a).wf = true) (A : Option Addr) (c : Nat) (xs : List Int) (hl : xs.length ≤ c) (w : World)
    (hs : SlA w 0 w.heap.size .u32 A xs) (hf : ∀ y ∈ xs, (Lit.int .u32 y).wf = true) (hbd : xs.length * 4 ≤ 140737488351232) :
    Calls Try.prog 4 #[.int .u8 a, .slice A xs.length c] w fun e w' => e = .returned (.bool true) ∧ w.grownBy w' none := by
  obtain ⟨a0, a1⟩ := wf_u8 wa
  clear wa
  obtain ⟨m, hm, hm1, hm2⟩ : ∃ m : Nat, (1 + a % 64) = (m : Int) ∧ 1 ≤ m ∧ m ≤ 64 := ⟨(a % 64).toNat + 1, by omega, by omega, by omega⟩
  have hw1 : IntKind.u32.wrap a = a := by rw [IntKind.wrap_u32]; omega
  have hw2 : IntKind.u32.wrap (1 + a % 64) = m := by rw [IntKind.wrap_u32]; omega
  have hw3 : IntKind.i64.wrap (m : Int) = m := by rw [IntKind.wrap_i64]; omega
  have ht : a.tmod 64 = a % 64 := by rw [Int.tmod_eq_emod_of_nonneg a0]
  have hn := Lib.hid (new_row m hm1 hm2 w)
  replace hs := Lib.hid hs
  clear hf
  replace hm := Lib.hid hm
  by_cases hlen : xs.length ≤ 300
  · go_enter Try.func4, Try.ntmps4
    go_wp2_with (go_at_call 6; refine hn.out.mono ?_; rintro e w1 ⟨p, q, B, rfl, hd, hp, hq, hB, hg⟩; replace hd := Lib.hid hd; replace hg := Lib.hid hg; clear hn)
    go_loopw [8] (fun i wr => ∃ (k : Nat), k ≤ xs.length ∧ i = .int .i64 k ∧ Hid (Rwt wr p q B m (xs.take (min k m))) ∧ Hid (w.grownBy wr none)) (fun i _ => xs.length - (intOf i).toNat)
    case atStart => exact ⟨0, Nat.zero_le _, rfl, by simpa using hd, hg⟩
    case round =>
      obtain ⟨k, hk, rfl, hdr, hgr⟩ := hrel
      clear hd hg
      by_cases hlt : k < xs.length
      · obtain ⟨gb, o, rfl, hc⟩ := (hs.out.kept hgr.out (by simp)).at hlt
        by_cases hkm : k < m
        · have hms : xs.take (min k m) ++ [gd xs k] = xs.take (min (k + 1) m) := by
            rw [show min k m = k by omega, show min (k + 1) m = k + 1 by omega]; exact take_snoc hlt
          have hll : (xs.take (min k m)).length < m := by simp; omega
          replace hms := Lib.hid hms
          replace hll := Lib.hid hll
          generalize gd xs k = v at *
          go_wp2_with (go_at_call 8; refine (hdr.out.put hll.out 1 (by decide) 0 v 0 0).mono ?_; rintro e w2 ⟨rfl, hd2, hg2⟩)
          rw [hms.out] at hd2
          replace hd2 := Lib.hid hd2
          replace hg2 := Lib.hid (grown_step hgr.out hg2 hB)
          clear hdr hgr
          go_roundw
          case rel => exact ⟨k + 1, by omega, by go_num, hd2, hg2⟩
          case measure => exact meas_r _ _ hlt
        · have hkm' : m ≤ k := by omega
          have hll : (xs.take (min k m)).length = m := by simp; omega
          have hms : xs.take (min k m) = xs.take (min (k + 1) m) := by rw [show min k m = m by omega, show min (k + 1) m = m by omega]
          replace hms := Lib.hid hms
          replace hll := Lib.hid hll
          generalize gd xs k = v at *
          go_wp2_with (go_at_call 8; refine (hdr.out.put_no hll.out 1 (by decide) 0 v 0 0).mono ?_; rintro e w2 ⟨rfl, hd2, hg2⟩)
          rw [hms.out] at hd2
          replace hd2 := Lib.hid hd2
          replace hg2 := Lib.hid (grown_trans hgr.out hg2)
          clear hdr hgr
          go_roundw
          case rel => exact ⟨k + 1, by omega, by go_num, hd2, hg2⟩
          case measure => exact meas_r _ _ hlt
      · obtain rfl : k = xs.length := by omega
        by_cases hmx : m < xs.length
        · have hLy : (xs.take (min xs.length m)).length = m := by simp; omega
          have hsl : Hid (∀ W, w.grownBy W none → SlA W 0 w.heap.size .u32 A (xs.take (min xs.length m))) := fun W hW => SlA_take (hs.out.kept hW (by simp)) _
          generalize xs.take (min xs.length m) = ys at *
          have hsw : Hid (∀ (W : World) (A' : Option Addr) (k base : Nat), SlA W base W.heap.size .u32 A' ys → ys.length ≤ k → w.grownBy W none → Calls Try.prog 10 #[.slice A' ys.length k, .slice A m c] W fun e w' => e = .returned (.bool true) ∧ W.grownBy w' none) := by
            intro W A' k base h1 h2 h3
            have := sameWords_any A' A k c _ _ _ _ ys ys W h2 (by omega) (by omega) (by omega) h1 (hsl.out W h3)
            rw [hLy] at this ⊢
            exact this.mono fun e w' ⟨he, n, hw⟩ => ⟨by rw [he, decide_eq_true rfl], by rw [← hw]; exact grown_drewN (grown_refl _ _) n⟩
          replace hLy := Lib.hid hLy
          have hsr := see_row
          go_wp2_with (first
            | (go_at_call 9; refine hdr.out.see.mono ?_; rintro e w2 ⟨A2, k2, rfl, hk2, hM2, hg2⟩; replace hd2 := Lib.hid (hdr.out.keep hg2); replace hg2 := Lib.hid (grown_trans hgr.out hg2); replace hM2 := Lib.hid hM2; clear hdr hgr)
            | (go_at_call 10; refine (hsw.out _ _ _ _ hM2.out.sl hk2 hg2.out).mono ?_; rintro e w3 ⟨rfl, hg3⟩; replace hd2 := Lib.hid (hd2.out.keep hg3); replace hg2 := Lib.hid (grown_trans hg2.out hg3); clear hM2 hg3 hsw))
          go_loopw [12] (fun i wr => ∃ (k : Nat), k ≤ m ∧ i = .int .i64 k ∧ Hid (Rwt wr p q B m (ys.drop k)) ∧ Hid (w.grownBy wr none)) (fun i _ => m - (intOf i).toNat)
          case atStart => exact ⟨0, Nat.zero_le _, rfl, hd2, hg2⟩
          case round =>
            obtain ⟨k, hk, rfl, hdr, hgr⟩ := hrel
            clear hd2 hg2
            by_cases hlt2 : k < m
            · have hky : k < ys.length := by rw [hLy.out]; exact hlt2
              obtain ⟨gb, o, rfl, hc⟩ := (hsl.out _ hgr.out).at hky
              have hdd : ys.drop k = gd ys k :: ys.drop (k + 1) := by rw [List.drop_eq_getElem_cons hky, gd_lt hky]
              rw [hdd] at hdr
              have hcc : Hid (∀ W, w.grownBy W none → W.cell? ⟨gb, o + k, none⟩ = some (.int .u32 (gd ys k))) := fun W hW => (hsl.out _ hW).cell hky
              clear hdd hc
              generalize gd ys k = v at *
              go_wp2_with (go_at_call 8; refine (hdr.out.peek 2 (by decide) 0 0 0 0).mono ?_; rintro e w2 ⟨rfl, hd2, hg2⟩; replace hd2 := Lib.hid hd2; replace hg2 := Lib.hid (grown_trans hgr.out hg2); clear hdr hgr)
              go_wp2_with (go_at_call 8; refine (hd2.out.get 2 (by decide) 0 0 0 0).mono ?_; rintro e w3 ⟨rfl, hd3, hg3⟩; replace hd3 := Lib.hid hd3; replace hg3 := Lib.hid (grown_step hg2.out hg3 hB); have hcw := hcc.out _ hg3.out; clear hd2 hg2)
              go_roundw
              case rel => exact ⟨k + 1, by omega, by go_num, hd3, hg3⟩
              case measure => exact meas_r _ _ hlt2
            · obtain rfl : k = m := by omega
              have hdd : ys.drop k = [] := by rw [← hLy.out]; simp
              rw [hdd] at hdr
              go_wp2_with (first
                | (go_at_call 8; refine (hdr.out.get_no 1 (by decide) 0 0 0 0).mono ?_; rintro e w2 ⟨rfl, hd2, hg2⟩; replace hg2 := Lib.hid (grown_trans hgr.out hg2); clear hdr hgr)
                | (go_at_call 7; refine (lives_ok _).mono ?_; rintro e w3 ⟨rfl, hg3⟩; replace hg2 := Lib.hid (grown_trans hg2.out hg3)))
              go_ret
              exact ⟨rfl, hg2.out⟩
        · have hLy : (xs.take (min xs.length m)).length = xs.length := by simp; omega
          have hsl : Hid (∀ W, w.grownBy W none → SlA W 0 w.heap.size .u32 A (xs.take (min xs.length m))) := fun W hW => SlA_take (hs.out.kept hW (by simp)) _
          generalize xs.take (min xs.length m) = ys at *
          have hsw : Hid (∀ (W : World) (A' : Option Addr) (k base : Nat), SlA W base W.heap.size .u32 A' ys → ys.length ≤ k → w.grownBy W none → Calls Try.prog 10 #[.slice A' ys.length k, .slice A xs.length c] W fun e w' => e = .returned (.bool true) ∧ W.grownBy w' none) := by
            intro W A' k base h1 h2 h3
            have := sameWords_any A' A k c _ _ _ _ ys ys W h2 (by omega) (by omega) (by omega) h1 (hsl.out W h3)
            rw [hLy] at this ⊢
            exact this.mono fun e w' ⟨he, n, hw⟩ => ⟨by rw [he, decide_eq_true rfl], by rw [← hw]; exact grown_drewN (grown_refl _ _) n⟩
          replace hLy := Lib.hid hLy
          have hsr := see_row
          go_wp2_with (first
            | (go_at_call 9; refine hdr.out.see.mono ?_; rintro e w2 ⟨A2, k2, rfl, hk2, hM2, hg2⟩; replace hd2 := Lib.hid (hdr.out.keep hg2); replace hg2 := Lib.hid (grown_trans hgr.out hg2); replace hM2 := Lib.hid hM2; clear hdr hgr)
            | (go_at_call 10; refine (hsw.out _ _ _ _ hM2.out.sl hk2 hg2.out).mono ?_; rintro e w3 ⟨rfl, hg3⟩; replace hd2 := Lib.hid (hd2.out.keep hg3); replace hg2 := Lib.hid (grown_trans hg2.out hg3); clear hM2 hg3 hsw))
          go_loopw [12] (fun i wr => ∃ (k : Nat), k ≤ xs.length ∧ i = .int .i64 k ∧ Hid (Rwt wr p q B m (ys.drop k)) ∧ Hid (w.grownBy wr none)) (fun i _ => xs.length - (intOf i).toNat)
          case atStart => exact ⟨0, Nat.zero_le _, rfl, hd2, hg2⟩
          case round =>
            obtain ⟨k, hk, rfl, hdr, hgr⟩ := hrel
            clear hd2 hg2
            by_cases hlt2 : k < xs.length
            · have hky : k < ys.length := by rw [hLy.out]; exact hlt2
              obtain ⟨gb, o, rfl, hc⟩ := (hsl.out _ hgr.out).at hky
              have hdd : ys.drop k = gd ys k :: ys.drop (k + 1) := by rw [List.drop_eq_getElem_cons hky, gd_lt hky]
              rw [hdd] at hdr
              have hcc : Hid (∀ W, w.grownBy W none → W.cell? ⟨gb, o + k, none⟩ = some (.int .u32 (gd ys k))) := fun W hW => (hsl.out _ hW).cell hky
              clear hdd hc
              generalize gd ys k = v at *
              go_wp2_with (go_at_call 8; refine (hdr.out.peek 2 (by decide) 0 0 0 0).mono ?_; rintro e w2 ⟨rfl, hd2, hg2⟩; replace hd2 := Lib.hid hd2; replace hg2 := Lib.hid (grown_trans hgr.out hg2); clear hdr hgr)
              go_wp2_with (go_at_call 8; refine (hd2.out.get 2 (by decide) 0 0 0 0).mono ?_; rintro e w3 ⟨rfl, hd3, hg3⟩; replace hd3 := Lib.hid hd3; replace hg3 := Lib.hid (grown_step hg2.out hg3 hB); have hcw := hcc.out _ hg3.out; clear hd2 hg2)
              go_roundw
              case rel => exact ⟨k + 1, by omega, by go_num, hd3, hg3⟩
              case measure => exact meas_r _ _ hlt2
            · obtain rfl : k = xs.length := by omega
              have hdd : ys.drop xs.length = [] := by rw [← hLy.out]; simp
              rw [hdd] at hdr
              go_wp2_with (first
                | (go_at_call 8; refine (hdr.out.get_no 1 (by decide) 0 0 0 0).mono ?_; rintro e w2 ⟨rfl, hd2, hg2⟩; replace hg2 := Lib.hid (grown_trans hgr.out hg2); clear hdr hgr)
                | (go_at_call 7; refine (lives_ok _).mono ?_; rintro e w3 ⟨rfl, hg3⟩; replace hg2 := Lib.hid (grown_trans hg2.out hg3)))
              go_ret
              exact ⟨rfl, hg2.out⟩
  · have hn' : 300 < xs.length := by omega
    go_enter Try.func4, Try.ntmps4
    go_wp2_with (first
      | (go_at_call 6; refine hn.out.mono ?_; rintro e w1 ⟨p, q, B, rfl, hd, hp, hq, hB, hg⟩; replace hg := Lib.hid hg; clear hn hd)
      | (go_at_call 7; refine (lives_ok _).mono ?_; rintro e w2 ⟨rfl, hg2⟩; replace hg2 := Lib.hid (grown_trans hg.out hg2)))
    go_ret
    exact ⟨rfl, hg2.out⟩
end Go.Proofs.Ytneamjaglgnmkaa
