/- RegionsBack. -/
import Derived.Test.YteiepkkebjbepaaRegA
namespace Go.Proofs.Yteiepkkebjbepaa
open Go.RowKit Go.Shelf Tk
set_option linter.unusedVariables false
set_option linter.unusedSimpArgs false

theorem gd_wb (v : Int) : gd (wordBytes v) 0 = v / 16777216 ∧ gd (wordBytes v) 1 = v / 65536 % 256 ∧ gd (wordBytes v) 2 = v / 256 % 256 ∧ gd (wordBytes v) 3 = v % 256 := ⟨rfl, rfl, rfl, rfl⟩
theorem wd_put {xs : List Int} {a : Nat} {v : Int} (h : a + 4 ≤ xs.length) (hv : 0 ≤ v ∧ v < 4294967296) : wd (put xs a (wordBytes v)) a 4 = v := by
  have h' : a + (wordBytes v).length ≤ xs.length := h
  have g := fun j (hj : j < 4) => put_gd h' (a + j)
  obtain ⟨b0, b1, b2, b3⟩ := gd_wb v
  have e : ∀ j, j < 4 → gd (put xs a (wordBytes v)) (a + j) = gd (wordBytes v) j := fun j hj => by
    rw [g j hj, if_pos ⟨by omega, by simp [wordBytes]; omega⟩]; congr 1; omega
  simp only [wd]
  rw [e 0 (by decide), e 1 (by decide), e 2 (by decide), e 3 (by decide), b0, b1, b2, b3]
  omega
theorem sets_put {xs : List Int} {a : Nat} {v : Int} (h : a + 4 ≤ xs.length) :
    (((xs.set a (v / 16777216)).set (a + 1) (v / 65536 % 256)).set (a + 2) (v / 256 % 256)).set (a + 3) (v % 256) = put xs a (wordBytes v) := by
  have h' : a + (wordBytes v).length ≤ xs.length := h
  apply ext_gd
  · rw [put_len h']; simp
  · intro i hi
    rw [put_gd h']
    simp only [List.length_set] at hi
    obtain ⟨b0, b1, b2, b3⟩ := gd_wb v
    have hl : (wordBytes v).length = 4 := rfl
    unfold gd
    simp only [List.getElem?_set, List.length_set, hl]
    by_cases e3 : a + 3 = i
    · subst e3; simp [hi, wordBytes]
    · by_cases e2 : a + 2 = i
      · subst e2; simp [hi, wordBytes]
      · by_cases e1 : a + 1 = i
        · subst e1; simp [hi, wordBytes]
        · by_cases e0 : a = i
          · subst e0; simp [hi, wordBytes]
          · rw [if_neg e3, if_neg e2, if_neg e1, if_neg e0, if_neg (by omega)]
theorem mine_fresh {w5 : World} {base n : Nat} {e : TypeId} {k : IntKind} {v : Value} {xs : List Int} (h : w5.ownsRow base e 1 v (0 + n) ([] ++ xs.map (Value.int k))) (hn : n = xs.length) (h0 : 0 < n) :
    ∃ g c, v = .slice (some ⟨g, 0, none⟩) xs.length c ∧ Mine w5 base e k (.slice (some ⟨g, 0, none⟩) xs.length c) xs ∧ xs.length ≤ c ∧ base ≤ g := by
  subst hn
  have hM : Mine w5 base e k v xs := by unfold Mine; simpa using h
  obtain ⟨A, c, rfl, h1, h2, h3⟩ := hM.form
  rcases h3 with ⟨rfl, rfl⟩ | ⟨g, rfl, hg, hs⟩
  · simp at h0
  · exact ⟨g, c, rfl, hM, h1, hg⟩
set_option maxRecDepth 100000 in
set_option maxHeartbeats 8000000 in
theorem regionsBack_walk (A0 : Option Addr) (c0 : Nat) (xs : List Int) (hl0 : xs.length ≤ c0) (a1 : Int) (w1 : (Lit.int .u32 a1).wf = true) (a2 : Int) (w2 : (Lit.int .u32 a2).wf = true) (w : World) (hs0 : SlA w 0 w.heap.size .u8 A0 xs) (hf : ∀ x ∈ xs, (Lit.int .u8 x).wf = true) (hb : xs.length * 1 ≤ 140737488351232) :
    Calls Try.prog 4 #[.slice A0 xs.length c0, .int .u32 a1, .int .u32 a2] w fun e w' => e = .returned (.bool true) ∧ w.grownBy w' none := by
  have hfit : ∀ k, k < xs.length → 0 ≤ gd xs k ∧ gd xs k < 256 := fun k hk => wf_u8 (hf _ (gd_mem hk))
  have hfit := Lib.hid hfit
  clear hf
  obtain ⟨h0, h1⟩ := wf_u32 w1
  obtain ⟨a, rfl⟩ := Int.eq_ofNat_of_zero_le h0
  have hv := wf_u32 w2
  generalize a2 = v at *
  obtain ⟨hv1, hv2⟩ := hv
  clear w1 w2 h0
  by_cases hlen : 4096 < xs.length
  · have hd : decide ((4096 : Int) < (xs.length : Int)) = true := by simp; omega
    clear hlen
    go_enter Try.func4, Try.ntmps4
    go_wp2_with fail
    refine (alive_any _).mono ?_; rintro e wd ⟨rfl, hg⟩
    go_wp2_with fail
    refine (alive_any _).mono ?_; rintro e we ⟨rfl, hg2⟩
    go_wp2_with fail
    go_ret
    exact ⟨rfl, grown_trans hg hg2⟩
  · obtain ⟨i0, hi, hz0, hz1, hz2⟩ := info_parts infoByte
    have hl : xs.length ≤ 4096 := by omega
    have hd : decide ((4096 : Int) < (xs.length : Int)) = false := by simp; omega
    clear hlen
    have hl := Lib.hid hl
    go_enter Try.func4, Try.ntmps4
    go_wp2_with fail
    refine (alive_any _).mono ?_; rintro e wd ⟨rfl, hg⟩
    have hs1 := hs0.kept hg (by simp)
    have hws := hg.size
    clear hs0
    go_wp2_with fail
    have hnew := new_ok xs.length hl A0 c0 xs (Nat.le_refl _) hfit.out wd _ _ hs1
    rw [Nat.sub_self, List.replicate_zero, List.append_nil] at hnew
    refine hnew.mono ?_; rintro e wn ⟨B, M, rfl, hR, hM, hB, hgn⟩
    have hgw := grown_trans hg hgn
    have hs2 := hs1.kept hgn (by simp)
    clear hnew hs1 hg hgn
    by_cases hfitA : a + 4 ≤ xs.length
    · have hle : ((a : Int) + 4 ≤ (xs.length : Int)) := by omega
      have hpl := put_len (xs := xs) (a := a) (ys := wordBytes v) hfitA
      have hwd := wd_put hfitA ⟨hv1, hv2⟩
      have hsp := sets_put (xs := xs) (a := a) (v := v) hfitA
      go_wp2_with fail
      refine (setWord_ok B M xs a v ⟨hv1, hv2⟩ hfitA hl _ hR).mono ?_; rintro e w3 ⟨rfl, hR3, hg3⟩
      have hg4 := grown_step hgw hg3 (by omega)
      have hs3 := hs2.kept hg3 (by intro b hb; cases hb; right; omega)
      generalize put xs a (wordBytes v) = zs at *
      go_wp2_with fail
      refine (bytes_ok B M zs (by omega) _ hR3).mono ?_; rintro e w4 ⟨A, c, rfl, hc, hm, hg5⟩
      have hR4 := hR3.keep hg5
      have hg6 := grown_trans hg4 hg5
      have hs4 := hs3.kept hg5 (by simp)
      have hw34 := hg5.size
      have hw13 := hg4.size
      clear hR3 hs3 hs2 hg5 hR hg3 hg4
      have hpl' : ((zs.length : Int) != (xs.length : Int)) = false := by rw [bne_eq_false_iff_eq]; omega
      rcases hs4.2 with h9 | ⟨b, o, rfl, -, hbw, -⟩
      · rw [h9] at hfitA; simp at hfitA
      have hvv : (v == v) = true := beq_self_eq_true v
      go_wp2_with fail
      refine (word_is B M zs a _ v rfl (by omega) (by omega) _ hR4 hwd).mono ?_; rintro e w' ⟨rfl, rfl⟩
      go_wp2_with (at_builtin; refine wpList_append_own_at _ rfl _ _ 24 rfl w4.heap.size 5 i0 (.int .u8 0) 1 1 Try.underlying24 hi hz0 hz1 hz2 rfl (by decide) (.slice none 0 0) 0 [] rfl (World.ownsRow_nil _ _ _ _) ⟨b, o, none⟩ xs.length c0 (xs.map (Value.int .u8)) rfl (by simp) hs4.src (by simp [Value.oneCell']) (by unfold maxLen; omega) (by omega) (Nat.le_refl _) ?_; intro v' w5 hown hgrow _ hat; obtain ⟨g, c5, rfl, hO, hc5, hgB⟩ := mine_fresh hown rfl (by omega); have q0 := hO.cell (i := a) (by omega); have q1 := hO.cell (i := a + 1) (by omega); have q2 := hO.cell (i := a + 2) (by omega); have q3 := hO.cell (i := a + 3) (by omega); have f0 := hO.frozen a; have f1 := hO.frozen (a + 1); have f2 := hO.frozen (a + 2); have f3 := hO.frozen (a + 3))
      have hO9 := (((hO.set a (v / 16777216)).set (a + 1) (v / 65536 % 256)).set (a + 2) (v / 256 % 256)).set (a + 3) (v % 256)
      rw [hsp] at hO9
      have hg7 : w.grownBy w5 none := grown_trans hg6 hgrow
      have hgg : w.heap.size ≤ g := by omega
      have hg9 := grown_step (grown_step (grown_step (grown_step hg7 (grownBy_setCell _ g a (.int .u8 (v / 16777216))) hgg) (grownBy_setCell _ g (a + 1) (.int .u8 (v / 65536 % 256))) hgg) (grownBy_setCell _ g (a + 2) (.int .u8 (v / 256 % 256))) hgg) (grownBy_setCell _ g (a + 3) (.int .u8 (v % 256))) hgg
      have hsA := ((((hm.sl.kept hgrow (by simp [Value.ownBlock])).kept (grownBy_setCell _ g a (.int .u8 (v / 16777216))) (by intro b hb; cases hb; right; omega)).kept (grownBy_setCell _ g (a + 1) (.int .u8 (v / 65536 % 256))) (by intro b hb; cases hb; right; omega)).kept (grownBy_setCell _ g (a + 2) (.int .u8 (v / 256 % 256))) (by intro b hb; cases hb; right; omega)).kept (grownBy_setCell _ g (a + 3) (.int .u8 (v % 256))) (by intro b hb; cases hb; right; omega)
      have hcall := sameBytes_any A (some ⟨g, 0, none⟩) c c5 _ _ _ _ zs zs _ hc (by omega) (by omega) (by omega) hsA hO9.sl
      rw [hpl] at hcall
      refine hcall.mono ?_; rw [decide_eq_true rfl]; rintro e w7 ⟨rfl, nn, rfl⟩
      go_wp2_with fail
      go_ret
      exact ⟨rfl, grown_drewN hg9 _⟩
    · have hle : decide ((a : Int) + 4 ≤ (xs.length : Int)) = false := by simp; omega
      have hfitB := Lib.hid hfitA
      clear hfitA
      go_wp2_with fail
      refine (setWord_no _ _ v 4 _ (no_out B M xs a 4 _ rfl (by omega) (by decide) (by have := hfitB.out; omega) hl.out _ hR)).mono ?_; rintro e w3 ⟨rfl, hg3⟩
      have hR3 := hR.keep hg3
      have hg4 := grown_trans hgw hg3
      have hs3 := hs2.kept hg3 (by simp)
      go_wp2_with fail
      refine (bytes_ok B M xs hl.out _ hR3).mono ?_; rintro e w4 ⟨A, c, rfl, hc, hm, hg5⟩
      have hg6 := grown_trans hg4 hg5
      have hs4 := hs3.kept hg5 (by simp)
      have hpl' : ((xs.length : Int) != (xs.length : Int)) = false := by simp
      go_wp2_with fail
      refine (sameBytes_any _ _ _ _ _ _ _ _ xs xs _ hc hl0 (by have := hl.out; omega) (by have := hl.out; omega) hm.sl hs4).mono ?_; rw [decide_eq_true rfl]; rintro e w7 ⟨rfl, nn, rfl⟩
      go_wp2_with fail
      go_ret
      exact ⟨rfl, grown_drewN hg6 _⟩
end Go.Proofs.Yteiepkkebjbepaa
