/- HandlesPlaces. -/
import Derived.Test.YtoocpofcmnnlfaaHanC
namespace Go.Proofs.Ytoocpofcmnnlfaa
open Go.RowKit Go.Shelf Tk
set_option linter.unusedVariables false
set_option linter.unusedSimpArgs false

/-- Is the place's handle dropped? -/
def dropF (D : Nat) (j : Nat) : Bool := decide (D / 2 ^ (j % 64) % 2 = 1)
theorem dropF_bit (D p : Nat) (hD : (D : Int) ≤ 18446744073709551615) : (bits .and .u64 ((D : Int) / 2 ^ (p % 64)) 1 == 0) = !dropF D p := by
  have hdiv : ((D : Int) / 2 ^ (p % 64)) = ((D / 2 ^ (p % 64) : Nat) : Int) := by simp
  have h4 : D / 2 ^ (p % 64) ≤ D := Nat.div_le_self _ _
  have h5 := bits_mask .u64 64 (by decide) (fun n h0 h1 => by rw [IntKind.wrap_u64]; omega) 1 (by decide) ((D : Int) / 2 ^ (p % 64)) (by rw [hdiv]; exact Int.natCast_nonneg _) (by
    rw [hdiv]
    have h7 : ((D / 2 ^ (p % 64) : Nat) : Int) ≤ (D : Int) := by exact_mod_cast h4
    exact Int.lt_of_le_of_lt (Int.le_trans h7 hD) (by decide))
  have h6 : ((2 : Int) ^ 1 - 1) = 1 := rfl
  rw [h6] at h5
  rw [h5, hdiv]
  unfold dropF
  have : ((2 : Int) ^ 1) = 2 := rfl
  rw [this]
  generalize D / 2 ^ (p % 64) = z
  rw [Bool.eq_iff_iff]
  simp
  omega
/-- What the walk asks of the tables. -/
structure TF (f : Nat → Bool) (k : Nat) (t : Nat → Nat → Tab) : Prop where
  good : ∀ i p, i ≤ k → (t i p).good
  make : ∀ j, j < k → (t j 0).make = (t (j + 1) 0, 256 + j, 0)
  place : ∀ j, j < k → (t (j + 1) 0).place (256 + j) = (j, 0)
  hit : ∀ p, p < k → f p = true → (t k p).drop (256 + p) = t k (p + 1) ∧ ((t k p).place (256 + p)).2 = 0
  miss : ∀ p, f p = false → t k p = t k (p + 1)
  len : (t k k).list.length = lefts f k
theorem tf_tP {f : Nat → Bool} {n k : Nat} (h1 : 1 ≤ n) (h2 : n ≤ 256) (hk : k ≤ n) : TF f k (tP f n) where
  good _ _ hi := tP_good h1 h2 (Nat.le_trans hi hk)
  make _ hj := tP_make (Nat.lt_of_lt_of_le hj hk)
  place _ hj := tP_place h2 (Nat.lt_of_lt_of_le hj hk)
  hit _ hp hf := tP_hit h1 h2 hk hp hf
  miss _ hf := tP_miss hf
  len := tP_len hk
set_option maxRecDepth 100000 in
set_option maxHeartbeats 4000000 in
theorem handlesPlaces_walk (a0 : Int) (w0 : (Lit.int .u8 a0).wf = true) (a1 : Int) (w1 : (Lit.int .u8 a1).wf = true) (a2 : Int) (w2 : (Lit.int .u64 a2).wf = true) (w : World) :
    Calls Try.prog 5 #[.int .u8 a0, .int .u8 a1, .int .u64 a2] w fun e w' => e = .returned (.bool true) ∧ w.grownBy w' none := by
  obtain ⟨h0, h1⟩ := wf_u8 w0
  obtain ⟨h2, h3⟩ := wf_u8 w1
  obtain ⟨h4, h5⟩ := wf_u64 w2
  clear w0 w1 w2
  obtain ⟨m, rfl⟩ := Int.eq_ofNat_of_zero_le h0
  obtain ⟨q, rfl⟩ := Int.eq_ofNat_of_zero_le h2
  obtain ⟨D, rfl⟩ := Int.eq_ofNat_of_zero_le h4
  obtain ⟨n, hn, hn1, hn2⟩ : ∃ n : Nat, n = 1 + m ∧ 1 ≤ n ∧ n ≤ 256 := ⟨_, rfl, by omega, by omega⟩
  have hn' : (1 : Int) + (m : Int) = n := by omega
  obtain ⟨k, hkn, hk⟩ : ∃ k : Nat, k ≤ n ∧ ((n < q ∧ k = n) ∨ (¬ n < q ∧ k = q)) := by
    by_cases e : n < q
    · exact ⟨n, Nat.le_refl _, .inl ⟨e, rfl⟩⟩
    · exact ⟨q, by omega, .inr ⟨e, rfl⟩⟩
  clear hn h0 h2 h4
  have hN := new_any n hn1 hn2 w
  obtain ⟨f, hf⟩ : ∃ f, f = dropF D := ⟨_, rfl⟩
  rw [tP_zero f] at hN
  have hT := tf_tP (f := f) hn1 hn2 hkn
  generalize tP f n = t at hN hT
  have hN := Lib.hid hN
  have hF := Lib.hid hf
  clear hf
  go_enter Try.func5, Try.ntmps5
  go_wp2_with fail
  refine hN.out.mono ?_; rintro e wa ⟨rfl, hA, hg, hsz⟩
  clear hN
  obtain ⟨B, hB⟩ : ∃ B, w.heap.size = B := ⟨_, rfl⟩
  have hBw : w.heap.size ≤ B := by omega
  rw [hB] at hA ⊢
  clear hB hsz
  have hk256 : k ≤ 256 := by omega
  have hT' := hT
  rcases hk with ⟨hlt, rfl⟩ | ⟨hlt, rfl⟩
  all_goals
    go_wp2_with fail
    clear hn'
    go_loopw [11, 12, 13, 14, 15] (fun i _ _ _ _ wr => ∃ j : Nat, j ≤ k ∧ i = .int .i64 j ∧ Arr wr B 513 (t j 0).v ∧ wa.grownBy wr (some B)) (fun i _ _ _ _ _ => k - (intOf i).toNat)
    case atStart => exact ⟨0, Nat.zero_le _, rfl, hA, grown_refl _ _⟩
    case round =>
      obtain ⟨j, hj, rfl, hA1, hg1⟩ := hrel
      by_cases hlt : j < k
      · go_wp2_with fail
        refine (make_as _ (t (j + 1) 0) _ 0 (256 + (j : Int)) (by omega) (hT.good _ _ hj).1 (hT.make _ hlt) _ _ hA1).mono ?_; rintro e w1 ⟨rfl, hA2, hg2⟩
        have hg2 := grown_trans hg1 hg2
        go_wp2_with fail
        refine (place_is _ (256 + j) j 0 (hT.good _ _ hlt).1 (hT.place _ hlt) _ _ (by omega) (by omega) _ hA2).mono ?_; rintro e w2 ⟨rfl, hg3⟩
        have hA3 := hA2.kept hg3 (by simp)
        have hg4 := grown_trans hg2 (grown_weaken (some B) hg3)
        go_wp2_with fail
        go_roundw
        case rel => exact ⟨j + 1, by omega, by go_num, hA3, hg4⟩
        case measure => simp [intOf]; omega
      · have hjk : j = k := by omega
        subst hjk
        have hT := Lib.hid hT
        go_wp2_with fail
        go_loopw [16, 17] (fun l i wr2 => ∃ p : Nat, p ≤ j ∧ l = .int .i64 (lefts f p) ∧ i = .int .i64 p ∧ Arr wr2 B 513 (t j p).v ∧ wr.grownBy wr2 (some B)) (fun _ i _ => j - (intOf i).toNat)
        case atStart => exact ⟨0, Nat.zero_le _, rfl, rfl, hA1, grown_refl _ _⟩
        case round =>
          obtain ⟨p, hp, rfl, rfl, hA2, hg2⟩ := hrel
          have hll := lefts_le f p
          have hls := Lib.hid (lefts_succ f p)
          by_cases hlt2 : p < j
          · have hb := dropF_bit D p h5
            rw [← hF.out] at hb
            cases hq : f p with
            | true =>
              have hls' : Hid (lefts f (p + 1) = lefts f p) := by show _ = _; rw [hls.out, hq]; rfl
              obtain ⟨hd, he⟩ := hT.out.hit p hlt2 hq
              have hd := Lib.hid hd
              have he := Lib.hid he
              rw [hq] at hb
              clear hq hls hT'
              go_wp2_with fail
              refine (drop_is _ (t j (p + 1)) (256 + p) 0 (hT.out.good _ _ (Nat.le_refl _)).1 he.out hd.out _ _ (by omega) (by omega) _ hA2).mono ?_; rintro e w2 ⟨rfl, hA3, hg3⟩
              go_wp2_with fail
              go_roundw
              case rel => exact ⟨p + 1, by omega, by rw [hls'.out], by go_num, hA3, grown_trans hg2 hg3⟩
              case measure => simp [intOf]; omega
            | false =>
              have hls' : Hid (lefts f (p + 1) = lefts f p + 1) := by show _ = _; rw [hls.out, hq]; rfl
              have hd := Lib.hid (hT.out.miss p hq)
              rw [hq] at hb
              clear hq hls hT'
              go_wp2_with fail
              go_roundw
              case rel => exact ⟨p + 1, by omega, by rw [hls'.out]; go_num, by go_num, by rw [← hd.out]; exact hA2, hg2⟩
              case measure => simp [intOf]; omega
          · obtain rfl : p = j := by omega
            have hgood := Lib.hid (hT.out.good p p (Nat.le_refl _))
            have hlen := hT.out.len
            have hgw : w.grownBy wr none := grown_step (grown_step hg hg1 hBw) hg2 hBw
            clear hA1 hT' hg1 hg2 hN
            generalize t p p = T at *
            go_wp2_with fail
            refine (list_any T hgood.out.1.1 hgood.out.1.2.2 _ _ hA2).mono ?_; rw [hlen]; rintro e w3 ⟨A, c, rfl, hc, hs, hg3⟩
            have hA3 := hA2.kept hg3 (by simp)
            have hgw2 := grown_trans hgw hg3
            have hgs := hg3.size
            have hs := hs.wide (Nat.le_refl _) (Nat.le_refl _) (Nat.le_refl _)
            clear hA2 hgw hg3
            have hL := T.list_len
            rw [hlen] at hL
            go_wp2_with fail
            go_loopw [19, 20, 21] (fun i _ _ wr3 => ∃ z : Nat, z ≤ lefts f p ∧ i = .int .i64 z ∧ w3.grownBy wr3 none) (fun i _ _ _ => lefts f p - (intOf i).toNat)
            case atStart => exact ⟨0, Nat.zero_le _, rfl, grown_refl _ _⟩
            case round =>
              obtain ⟨z, hz, rfl, hg4⟩ := hrel
              have hA4 := hA3.kept hg4 (by simp)
              have hs4 := hs.kept hg4 (by simp)
              have hgw3 := grown_trans hgw2 hg4
              by_cases hlz : z < lefts f p
              · obtain ⟨b, o, rfl, hcell⟩ := hs4.at (i := z) (by omega)
                have hat := Tab.at_mem (t := T) (i := z) (by omega)
                have hpl := Lib.hid (Tab.place_h hgood.out hat.2)
                have hp256 : T.at z < 256 := Nat.lt_of_lt_of_le hat.1 hgood.out.1.2.2
                have hxl := Tab.h_lt hgood.out.1 hp256
                have hxm := Tab.h_mod (t := T) hp256
                rw [Tab.gd_list (by omega)] at hcell
                have hxm' : (((T.h (T.at z) : Nat) : Int) % 256) = (T.at z : Int) := by omega
                clear hxm
                have hyy : ((T.at z : Int) != (T.at z : Int)) = false := by simp
                by_cases hz0 : 0 < z
                · obtain ⟨z', hz'⟩ : ∃ z', z = z' + 1 := ⟨z - 1, by omega⟩
                  have hz1 : ((z : Int) - 1) = (z' : Int) := by omega
                  obtain ⟨b', o', e', hcell'⟩ := hs4.at (i := z') (by omega)
                  cases e'
                  have hat' := Tab.at_mem (t := T) (i := z') (by omega)
                  have hp256' : T.at z' < 256 := Nat.lt_of_lt_of_le hat'.1 hgood.out.1.2.2
                  have hxm2 := Tab.h_mod (t := T) hp256'
                  have hxl2 := Tab.h_lt hgood.out.1 hp256'
                  have hlt3 := Tab.at_mono (t := T) (i := z') (j := z) (by omega) (by omega)
                  rw [Tab.gd_list (by omega)] at hcell'
                  have hxm3 : (((T.h (T.at z') : Nat) : Int) % 256) = (T.at z' : Int) := by omega
                  have hge : ¬ T.at z ≤ T.at z' := by omega
                  clear hat hat' hs hxm2
                  have hz'' := Lib.hid hz'
                  clear hz'
                  generalize T.h (T.at z) = x at *
                  generalize T.at z = y at *
                  generalize T.h (T.at z') = x' at *
                  generalize T.at z' = y' at *
                  go_wp2_with fail
                  refine (place_is T x y 0 hgood.out.1 hpl.out _ _ rfl hxl _ hA4).mono ?_; rintro e w5 ⟨rfl, hg5⟩
                  have hg6 := grown_trans hg4 hg5
                  have hs5 := hs4.kept hg5 (by simp)
                  rcases hs5.2 with h | ⟨b0, o0, e0, _, hb0, _⟩
                  · exfalso; rw [h] at hlen; simp at hlen; omega
                  cases e0
                  have hk5 := fun i => World.cell?_of_block (w := wr) (w' := w5) (a := ⟨b, i, none⟩) (hg5.block b (by have := hs4.1; omega) (by simp))
                  rw [← hk5] at hcell hcell'
                  clear hk5 hs4
                  go_wp2_with fail
                  go_quiet (fail)
                  go_wp2_with fail
                  go_roundw
                  case rel => exact ⟨z + 1, by omega, by go_num, grown_drewN hg6 _⟩
                  case measure => simp [intOf]; omega
                · clear hat hs
                  generalize T.h (T.at z) = x at *
                  generalize T.at z = y at *
                  go_wp2_with fail
                  refine (place_is T x y 0 hgood.out.1 hpl.out _ _ rfl hxl _ hA4).mono ?_; rintro e w5 ⟨rfl, hg5⟩
                  have hg6 := grown_trans hg4 hg5
                  have hs5 := hs4.kept hg5 (by simp)
                  rcases hs5.2 with h | ⟨b0, o0, e0, _, hb0, _⟩
                  · exfalso; rw [h] at hlen; simp at hlen; omega
                  cases e0
                  have hk5 := fun i => World.cell?_of_block (w := wr) (w' := w5) (a := ⟨b, i, none⟩) (hg5.block b (by have := hs4.1; omega) (by simp))
                  rw [← hk5] at hcell
                  clear hk5 hs4
                  go_wp2_with fail
                  go_quiet (fail)
                  go_wp2_with fail
                  go_roundw
                  case rel => exact ⟨z + 1, by omega, by go_num, grown_drewN hg6 _⟩
                  case measure => simp [intOf]; omega
              · go_wp2_with fail
                refine (alive_any _).mono ?_; rintro e w5 ⟨rfl, hg5⟩
                go_wp2_with fail
                go_ret
                exact ⟨rfl, grown_trans hgw3 hg5⟩
end Go.Proofs.Ytoocpofcmnnlfaa
