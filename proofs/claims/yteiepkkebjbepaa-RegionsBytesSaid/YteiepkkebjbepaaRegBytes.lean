/- RegionsBytes. -/
import Derived.Test.YteiepkkebjbepaaRegBack
namespace Go.Proofs.Yteiepkkebjbepaa
open Go.RowKit Go.Shelf Tk
set_option linter.unusedVariables false
set_option linter.unusedSimpArgs false

theorem four_of {xs : List Int} (h : xs.length = 4) : ∃ a b c d, xs = [a, b, c, d] := by
  match xs, h with
  | [a, b, c, d], _ => exact ⟨a, b, c, d, rfl⟩
theorem or_at (k : Nat) (hk : k ≤ 24) (X y : Int) (h0 : 0 ≤ X) (h1 : X % 2 ^ k = 0) (h2 : X < 4294967296) (h3 : 0 ≤ y) (h4 : y < 2 ^ k) : bits .or .u32 X y = X + y :=
  bits_join .u32 32 (by decide) (fun n h0 h1 => by rw [IntKind.wrap_u32]; omega) k X y h0 h1 (by omega) h3 h4 (by
    have : (2 : Int) ^ k ≤ 2 ^ 24 := by exact_mod_cast Nat.pow_le_pow_right (by decide : 0 < 2) hk
    have e : (2 : Int) ^ 24 = 16777216 := rfl
    have e2 : (2 : Int) ^ 32 = 4294967296 := rfl
    omega)
theorem or_four (v0 v1 v2 v3 : Int) (h0 : 0 ≤ v0 ∧ v0 < 256) (h1 : 0 ≤ v1 ∧ v1 < 256) (h2 : 0 ≤ v2 ∧ v2 < 256) (h3 : 0 ≤ v3 ∧ v3 < 256) :
    bits .or .u32 (v0 * 16777216) (v1 * 65536) = v0 * 16777216 + v1 * 65536 ∧ bits .or .u32 (v0 * 16777216 + v1 * 65536) (v2 * 256) = v0 * 16777216 + v1 * 65536 + v2 * 256 ∧
      bits .or .u32 (v0 * 16777216 + v1 * 65536 + v2 * 256) v3 = v0 * 16777216 + v1 * 65536 + v2 * 256 + v3 := by
  have e24 : (2 : Int) ^ 24 = 16777216 := rfl
  have e16 : (2 : Int) ^ 16 = 65536 := rfl
  have e8 : (2 : Int) ^ 8 = 256 := rfl
  refine ⟨or_at 24 (by decide) _ _ (by omega) (by rw [e24]; omega) (by omega) (by omega) (by rw [e24]; omega), or_at 16 (by decide) _ _ (by omega) (by rw [e16]; omega) (by omega) (by omega) (by rw [e16]; omega), or_at 8 (by decide) _ _ (by omega) (by rw [e8]; omega) (by omega) (by omega) (by rw [e8]; omega)⟩
set_option maxRecDepth 100000 in
set_option maxHeartbeats 8000000 in
theorem regionsBytes_walk (A0 : Option Addr) (c0 : Nat) (xs : List Int) (hl0 : xs.length ≤ c0) (a1 : Int) (w1 : (Lit.int .u32 a1).wf = true) (vs : List Int) (hvl : vs.length = 4) (hvf : ∀ x ∈ vs, (Lit.int .u8 x).wf = true) (w : World) (hs0 : SlA w 0 w.heap.size .u8 A0 xs) (hf : ∀ x ∈ xs, (Lit.int .u8 x).wf = true) (hb : xs.length * 1 ≤ 140737488351232) :
    Calls Try.prog 5 #[.slice A0 xs.length c0, .int .u32 a1, .agg (vs.map (Value.int .u8)).toArray] w fun e w' => e = .returned (.bool true) ∧ w.grownBy w' none := by
  have hfit : ∀ k, k < xs.length → 0 ≤ gd xs k ∧ gd xs k < 256 := fun k hk => wf_u8 (hf _ (gd_mem hk))
  have hfit := Lib.hid hfit
  clear hf
  obtain ⟨h0, h1⟩ := wf_u32 w1
  obtain ⟨a, rfl⟩ := Int.eq_ofNat_of_zero_le h0
  have hvv : Hid (∀ j, j < 4 → 0 ≤ gd vs j ∧ gd vs j < 256) := fun j hj => wf_u8 (hvf _ (gd_mem (by omega)))
  obtain ⟨v0, v1, v2, v3, rfl⟩ := four_of hvl
  simp only [List.map_cons, List.map_nil]
  have h1' : Hid (∀ N : Int, N = 4294967296 → (a : Int) < N) := fun N hN => by omega
  have h1b : (a : Int) ≤ 4294967295 := by omega
  clear w1 h0 hvl hvf h1
  by_cases hlen : 4096 < xs.length
  · have hd : decide ((4096 : Int) < (xs.length : Int)) = true := by simp; omega
    clear hlen
    go_enter Try.func5, Try.ntmps5
    go_wp2_with fail
    refine (alive_any _).mono ?_; rintro e wd ⟨rfl, hg⟩
    go_wp2_with fail
    refine (alive_any _).mono ?_; rintro e we ⟨rfl, hg2⟩
    go_wp2_with fail
    go_ret
    exact ⟨rfl, grown_trans (grown_trans (World.grownBy_alloc _ _ _) hg) hg2⟩
  · have hl : xs.length ≤ 4096 := by omega
    have hd : decide ((4096 : Int) < (xs.length : Int)) = false := by simp; omega
    clear hlen
    obtain ⟨vs, hvs⟩ : ∃ vs, vs = [v0, v1, v2, v3] := ⟨_, rfl⟩
    have hV := Arr.new w #[.int .u8 v0, .int .u8 v1, .int .u8 v2, .int .u8 v3] 43 4 (fun i => .int .u8 (gd vs i)) rfl (fun i hi => by subst hvs; rcases (by omega : i = 0 ∨ i = 1 ∨ i = 2 ∨ i = 3) with rfl | rfl | rfl | rfl <;> rfl)
    have hgV := World.grownBy_alloc w (.cells #[.int .u8 v0, .int .u8 v1, .int .u8 v2, .int .u8 v3] 43) none
    rw [← hvs] at hvv
    have hsK := Lib.hid (fun wr (h : w.grownBy wr none) => hs0.kept h (by simp))
    have hvs0 : Hid (gd vs 0 = v0 ∧ gd vs 1 = v1 ∧ gd vs 2 = v2 ∧ gd vs 3 = v3) := by subst hvs; exact ⟨rfl, rfl, rfl, rfl⟩
    clear hvs
    go_enter Try.func5, Try.ntmps5
    go_wp2_with fail
    refine (alive_any _).mono ?_; rintro e wd0 ⟨rfl, hg⟩
    have hV1 := hV.kept hg (by simp)
    have hg1 := grown_trans hgV hg
    clear hV hgV hg hs0
    have hnew := new_ok xs.length hl A0 c0 xs (Nat.le_refl _) hfit.out _ _ _ (hsK.out _ hg1)
    rw [Nat.sub_self, List.replicate_zero, List.append_nil] at hnew
    have hnew := Lib.hid hnew
    go_wp2_with fail
    refine hnew.out.mono ?_; rintro e w1 ⟨B, M, rfl, hR, hM, hB, hg2⟩
    have hV2 := hV1.kept hg2 (by simp)
    have hg3 := grown_trans hg1 hg2
    have hwd := hV1.lt
    clear hV1 hg1 hg2 hnew
    go_wp2_with fail
    obtain ⟨V, hVe⟩ : ∃ V, w.heap.size = V := ⟨_, rfl⟩
    rw [hVe] at hV2 hwd ⊢
    have hVw : w.heap.size ≤ V := by omega
    clear hVe
    go_loopw [9] (fun i wr => ∃ (k : Nat) (ys : List Int), k ≤ 4 ∧ i = .int .u32 k ∧ ys.length = xs.length ∧ Hid (∀ j, j < k → a + j < xs.length → gd ys (a + j) = gd vs j) ∧ Reg wr B M ys ∧ Arr wr V 4 (fun i => .int .u8 (gd vs i)) ∧ w.grownBy wr none) (fun i _ => 4 - (intOf i).toNat)
    case atStart => exact ⟨0, xs, by decide, rfl, rfl, fun j hj => absurd hj (Nat.not_lt_zero _), hR, hV2, hg3⟩
    case round =>
      obtain ⟨k, ys, hk, rfl, hyl, hyv, hR1, hV3, hg1⟩ := hrel
      clear hR hV2 hg3
      by_cases hlt : k < 4
      · have hc := hV3.cell hlt
        by_cases hin : a + k < xs.length
        · have d1 : decide ((a : Int) + (k : Int) < (xs.length : Int)) = true := by simp; omega
          have d2 : decide ((4294967296 : Int) ≤ (a : Int) + (k : Int)) = false := by have := h1'.out _ rfl; simp; omega
          have hak : Hid (∀ N : Nat, N = 4294967296 → a + k < N) := fun N hN => by have := h1'.out _ rfl; omega
          have hwr : IntKind.u32.wrap ((a : Int) + (k : Int)) = (a : Int) + (k : Int) := by rw [IntKind.wrap_u32]; have := hak.out _ rfl; omega
          have hpl := put_len (xs := ys) (a := a + k) (ys := [gd vs k]) (by simp; omega)
          have hin2 : a + k < ys.length := by omega
          have hgp := fun i => put_gd (xs := ys) (a := a + k) (ys := [gd vs k]) (by simp; omega) i
          have hzv : Hid (∀ j, j < k + 1 → a + j < xs.length → gd (put ys (a + k) [gd vs k]) (a + j) = gd vs j) := fun j hj hj2 => by
            rw [hgp]
            by_cases e : j = k
            · subst e; rw [if_pos (by simp)]; simp [gd]
            · rw [if_neg (by simp; omega)]; exact hyv.out j (by omega) hj2
          have hgk : gd (put ys (a + k) [gd vs k]) (a + k) = gd vs k := hzv.out k (by omega) hin
          have hvk := hvv.out k hlt
          have hin3 := Lib.hid hin2
          clear hin hin2 hgp
          go_wp2_with fail
          refine (setByte_ok B M ys (a + k) (gd vs k) hvk hin3.out (by omega) _ hR1).mono ?_; rintro e w2 ⟨rfl, hR2, hg2⟩
          have hV4 := hV3.kept hg2 (by simp; omega)
          have hg4 := grown_step hg1 hg2 (by omega)
          have hby := byte_ok B M _ (a + k) (by rw [hpl]; exact hin3.out) (by omega) _ hR2
          rw [hgk] at hby
          have hby := Lib.hid hby
          generalize put ys (a + k) [gd vs k] = zs at *
          clear hgk hc
          have hc := hV4.cell hlt
          have hvk2 : (gd vs k != gd vs k) = false := by simp
          go_wp2_with fail
          refine hby.out.mono ?_; rintro e w' ⟨rfl, rfl⟩
          go_wp2_with fail
          go_roundw
          case rel => exact ⟨k + 1, zs, by omega, by go_num, by omega, hzv, hR2, hV4, hg4⟩
          case measure => simp [intOf]; omega
        · have d1 : decide ((a : Int) + (k : Int) < (xs.length : Int)) = false := by simp; omega
          have hzv : Hid (∀ j, j < k + 1 → a + j < xs.length → gd ys (a + j) = gd vs j) := fun j hj hj2 => hyv.out j (by omega) hj2
          have hin' := Lib.hid hin
          clear hin
          by_cases hbig : 4294967296 ≤ a + k
          · have d2 : decide ((4294967296 : Int) ≤ (a : Int) + (k : Int)) = true := by simp; omega
            have d3 : decide ((xs.length : Int) < (a : Int) + 4) = true := by simp; omega
            clear hbig
            have hout : ys.length < a + 4 := by have := hin'.out; omega
            have hout := Lib.hid hout
            go_wp2_with fail
            refine (word_no _ _ 4 _ (no_out B M ys a 4 _ rfl (by have := h1'.out _ rfl; omega) (by decide) hout.out (by omega) _ hR1)).mono ?_; rintro e w' ⟨rfl, rfl⟩
            go_wp2_with fail
            go_ret
            exact ⟨rfl, hg1⟩
          · have d2 : decide ((4294967296 : Int) ≤ (a : Int) + (k : Int)) = false := by have := h1'.out _ rfl; simp; omega
            have hak : Hid (∀ N : Nat, N = 4294967296 → a + k < N) := fun N hN => by have := h1'.out _ rfl; omega
            have hwr : IntKind.u32.wrap ((a : Int) + (k : Int)) = (a : Int) + (k : Int) := by rw [IntKind.wrap_u32]; have := hak.out _ rfl; omega
            clear hbig
            go_wp2_with fail
            refine (setByte_no _ _ (gd vs k) 4 _ (no_out B M ys (a + k) 1 _ (by omega) (hak.out _ rfl) (by decide) (by have := hin'.out; omega) (by omega) _ hR1)).mono ?_; rintro e w2 ⟨rfl, hg2⟩
            have hR2 := hR1.keep hg2
            have hV4 := hV3.kept hg2 (by simp)
            have hg4 := grown_trans hg1 hg2
            go_wp2_with fail
            refine (byte_no _ _ 4 (by decide) _ (no_out B M ys (a + k) 1 _ (by omega) (hak.out _ rfl) (by decide) (by have := hin'.out; omega) (by omega) _ hR2)).mono ?_; rintro e w' ⟨rfl, rfl⟩
            go_wp2_with fail
            go_roundw
            case rel => exact ⟨k + 1, ys, by omega, by go_num, by omega, hzv, hR2, hV4, hg4⟩
            case measure => simp [intOf]; omega
      · by_cases hin : a + 4 ≤ xs.length
        · have d3 : decide ((xs.length : Int) < (a : Int) + 4) = false := by simp; omega
          have hin4 : a + 4 ≤ ys.length := by omega
          obtain ⟨e0, e1, e2, e3⟩ := hvs0.out
          have c0' := hV3.cell (i := 0) (by decide)
          have c1' := hV3.cell (i := 1) (by decide)
          have c2' := hV3.cell (i := 2) (by decide)
          have c3' := hV3.cell (i := 3) (by decide)
          have g0 := hvv.out 0 (by decide)
          have g1 := hvv.out 1 (by decide)
          have g2 := hvv.out 2 (by decide)
          have g3 := hvv.out 3 (by decide)
          rw [e0] at c0' g0
          rw [e1] at c1' g1
          rw [e2] at c2' g2
          rw [e3] at c3' g3
          obtain ⟨o1, o2, o3⟩ := or_four v0 v1 v2 v3 g0 g1 g2 g3
          have hw : wd ys a 4 = v0 * 16777216 + v1 * 65536 + v2 * 256 + v3 := by
            simp only [wd]
            rw [hyv.out 0 (by omega) (by omega), hyv.out 1 (by omega) (by omega), hyv.out 2 (by omega) (by omega), hyv.out 3 (by omega) (by omega), e0, e1, e2, e3]
            omega
          have hw := Lib.hid hw
          have hin5 := Lib.hid hin4
          obtain ⟨g01, g02⟩ := g0
          obtain ⟨g11, g12⟩ := g1
          obtain ⟨g21, g22⟩ := g2
          obtain ⟨g31, g32⟩ := g3
          clear hin hin4 e0 e1 e2 e3
          go_wp2_with fail
          refine (word_is B M ys a _ _ rfl hin5.out (by omega) _ hR1 hw.out).mono ?_; rintro e w' ⟨rfl, rfl⟩
          go_wp2_with fail
          go_ret
          exact ⟨rfl, hg1⟩
        · have d3 : decide ((xs.length : Int) < (a : Int) + 4) = true := by simp; omega
          have hout : ys.length < a + 4 := by omega
          have hout := Lib.hid hout
          clear hin
          go_wp2_with fail
          refine (word_no _ _ 4 _ (no_out B M ys a 4 _ rfl (by have := h1'.out _ rfl; omega) (by decide) hout.out (by omega) _ hR1)).mono ?_; rintro e w' ⟨rfl, rfl⟩
          go_wp2_with fail
          go_ret
          exact ⟨rfl, hg1⟩
end Go.Proofs.Yteiepkkebjbepaa
