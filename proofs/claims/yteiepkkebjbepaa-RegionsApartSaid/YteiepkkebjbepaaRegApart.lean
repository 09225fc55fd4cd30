/- RegionsApart. -/
import Derived.Test.YteiepkkebjbepaaRegBack
namespace Go.Proofs.Yteiepkkebjbepaa
open Go.RowKit Go.Shelf Tk
set_option linter.unusedVariables false
set_option linter.unusedSimpArgs false

theorem two_of {xs : List Int} (h : xs.length = 2) : ∃ a b, xs = [a, b] := by
  match xs, h with
  | [a, b], _ => exact ⟨a, b, rfl⟩
set_option maxRecDepth 100000 in
set_option maxHeartbeats 8000000 in
theorem regionsApart_walk (A0 : Option Addr) (c0 : Nat) (xs : List Int) (hl0 : xs.length ≤ c0) (a1 : Int) (w1 : (Lit.int .u32 a1).wf = true) (vs : List Int) (hvl : vs.length = 2) (hvf : ∀ x ∈ vs, (Lit.int .u32 x).wf = true) (w : World) (hs0 : SlA w 0 w.heap.size .u8 A0 xs) (hf : ∀ x ∈ xs, (Lit.int .u8 x).wf = true) (hb : xs.length * 1 ≤ 140737488351232) :
    Calls Try.prog 8 #[.slice A0 xs.length c0, .int .u32 a1, .agg (vs.map (Value.int .u32)).toArray] w fun e w' => e = .returned (.bool true) ∧ w.grownBy w' none := by
  have hfit : ∀ k, k < xs.length → 0 ≤ gd xs k ∧ gd xs k < 256 := fun k hk => wf_u8 (hf _ (gd_mem hk))
  have hfit := Lib.hid hfit
  clear hf
  obtain ⟨h0, h1⟩ := wf_u32 w1
  obtain ⟨q, rfl⟩ := Int.eq_ofNat_of_zero_le h0
  obtain ⟨v0, v1, rfl⟩ := two_of hvl
  obtain ⟨v01, v02⟩ := wf_u32 (hvf v0 (by simp))
  obtain ⟨v11, v12⟩ := wf_u32 (hvf v1 (by simp))
  simp only [List.map_cons, List.map_nil]
  clear w1 h0 hvl hvf
  by_cases hlen : 4096 < xs.length ∨ xs.length < 4
  · have hd : decide ((4096 : Int) < (xs.length : Int)) = true ∨ (decide ((4096 : Int) < (xs.length : Int)) = false ∧ decide ((xs.length : Int) < 4) = true) := by
      simp only [decide_eq_true_eq, decide_eq_false_iff_not]; omega
    clear hlen
    rcases hd with hd | ⟨hd, hd2⟩
    all_goals
      go_enter Try.func8, Try.ntmps8
      go_wp2_with fail
      refine (alive_any _).mono ?_; rintro e wd ⟨rfl, hg⟩
      go_wp2_with fail
      refine (alive_any _).mono ?_; rintro e we ⟨rfl, hg2⟩
      go_wp2_with fail
      go_ret
      exact ⟨rfl, grown_trans (grown_trans (World.grownBy_alloc _ _ _) hg) hg2⟩
  · have hl : xs.length ≤ 4096 := by omega
    have hd : decide ((4096 : Int) < (xs.length : Int)) = false := by simp; omega
    have hd2 : decide ((xs.length : Int) < 4) = false := by simp; omega
    have hl4 : 4 ≤ xs.length := by omega
    clear hlen
    obtain ⟨k, hk, hk2⟩ : ∃ k : Nat, (q : Int) % ((xs.length : Int) - 3) = k ∧ k + 4 ≤ xs.length := by
      refine ⟨q % (xs.length - 3), ?_, by have := Nat.mod_lt q (show 0 < xs.length - 3 by omega); omega⟩
      have : ((xs.length : Int) - 3) = ((xs.length - 3 : Nat) : Int) := by omega
      rw [this]; simp
    have hV := Arr.new w #[.int .u32 v0, .int .u32 v1] 49 2 (fun i => if i = 0 then .int .u32 v0 else .int .u32 v1) rfl (fun i hi => by rcases (by omega : i = 0 ∨ i = 1) with rfl | rfl <;> rfl)
    have hgV := World.grownBy_alloc w (.cells #[.int .u32 v0, .int .u32 v1] 49) none
    have hVK : Hid (∀ (w1 w2 : World) (r : Option Nat), w1.grownBy w2 r → r ≠ some w.heap.size → Arr w1 w.heap.size 2 (fun i => if i = 0 then .int .u32 v0 else .int .u32 v1) → Arr w2 w.heap.size 2 (fun i => if i = 0 then .int .u32 v0 else .int .u32 v1)) := fun w1 w2 r h1 h2 h3 => h3.kept h1 h2
    have hVc : Hid (∀ w1 : World, Arr w1 w.heap.size 2 (fun i => if i = 0 then .int .u32 v0 else .int .u32 v1) → w1.cell? ⟨w.heap.size, 0, none⟩ = some (.int .u32 v0) ∧ w1.cell? ⟨w.heap.size, 1, none⟩ = some (.int .u32 v1)) := fun w1 h => ⟨h.cell (i := 0) (by decide), h.cell (i := 1) (by decide)⟩
    have hsK := Lib.hid (fun wr (h : w.grownBy wr none) => hs0.kept h (by simp))
    go_enter Try.func8, Try.ntmps8
    go_wp2_with fail
    refine (alive_any _).mono ?_; rintro e wd ⟨rfl, hg⟩
    have hV1 := hVK.out _ _ _ hg (by simp) hV
    have hg1 := grown_trans hgV hg
    clear hV hgV hg hs0
    have hnew := fun W (hW : w.grownBy W none) => new_ok xs.length hl A0 c0 xs (Nat.le_refl _) hfit.out W _ _ (hsK.out _ hW)
    rw [Nat.sub_self, List.replicate_zero, List.append_nil] at hnew
    have hnew := Lib.hid hnew
    go_wp2_with fail
    refine (hnew.out _ hg1).mono ?_; rintro e w1 ⟨B, M, rfl, hR, hM, hB, hg2⟩
    have hV2 := hVK.out _ _ _ hg2 (by simp) hV1
    have hg3 := grown_trans hg1 hg2
    have hwd := hV1.lt
    clear hV1 hg1 hg2
    go_wp2_with fail
    refine (hnew.out _ hg3).mono ?_; rintro e w2 ⟨B2, M2, rfl, hR2, hM2, hB2, hg4⟩
    have hV3 := hVK.out _ _ _ hg4 (by simp) hV2
    have hg5 := grown_trans hg3 hg4
    have hRl := hR.hdr.lt
    have hRl2 := hR.row.lt
    have hR1 := hR.keep hg4
    obtain ⟨hc0, hc1⟩ := hVc.out _ hV3
    clear hV2 hg3 hg4 hR
    go_wp2_with fail
    try rw [hk]
    refine (setWord_ok B M xs k v0 ⟨v01, v02⟩ hk2 hl _ hR1).mono ?_; rintro e w3 ⟨rfl, hR3, hg6⟩
    have hV4 := hVK.out _ _ _ hg6 (by simp; omega) hV3
    have hg7 := grown_step hg5 hg6 (by omega)
    have hRb := hR2.kept hg6 (by simp; omega) (by simp; omega)
    have hpl := put_len (xs := xs) (a := k) (ys := wordBytes v0) hk2
    generalize put xs k (wordBytes v0) = ys at *
    clear hc0 hc1 hV3 hg5 hg6 hR1 hR2
    obtain ⟨hc0, hc1⟩ := hVc.out _ hV4
    go_wp2_with fail
    try rw [hk]
    refine (setWord_ok B M ys k v1 ⟨v11, v12⟩ (by omega) (by omega) _ hR3).mono ?_; rintro e w4 ⟨rfl, hR4, hg8⟩
    have hV5 := hVK.out _ _ _ hg8 (by simp; omega) hV4
    have hg9 := grown_step hg7 hg8 (by omega)
    have hRb2 := hRb.kept hg8 (by simp; omega) (by simp; omega)
    have hpl2 := put_len (xs := ys) (a := k) (ys := wordBytes v1) (by show k + 4 ≤ _; omega)
    have hwdp := wd_put (xs := ys) (a := k) (v := v1) (by omega) ⟨v11, v12⟩
    generalize put ys k (wordBytes v1) = zs at *
    clear hc0 hc1 hV4 hg7 hg8 hR3 hRb
    obtain ⟨hc0, hc1⟩ := hVc.out _ hV5
    have hvv : (v1 == v1) = true := beq_self_eq_true v1
    go_wp2_with fail
    try rw [hk]
    refine (word_is B M zs k _ v1 rfl (by omega) (by omega) _ hR4 hwdp).mono ?_; rintro e w' ⟨rfl, rfl⟩
    go_wp2_with fail
    refine (bytes_ok B2 M2 xs hl _ hRb2).mono ?_; rintro e w5 ⟨A, c, rfl, hc, hm, hg10⟩
    have hg11 := grown_trans hg9 hg10
    go_wp2_with fail
    refine (sameBytes_any _ _ _ _ _ _ _ _ xs xs _ hc hl0 (by omega) (by omega) hm.sl (hsK.out _ hg11)).mono ?_; rw [decide_eq_true rfl]; rintro e w7 ⟨rfl, nn, rfl⟩
    go_wp2_with fail
    go_ret
    exact ⟨rfl, grown_drewN hg11 _⟩
end Go.Proofs.Yteiepkkebjbepaa
