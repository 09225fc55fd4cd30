/- HandlesFull. -/
import Derived.Test.YtoocpofcmnnlfaaHanAny
import Derived.Test.YtoocpofcmnnlfaaHanPlaces
namespace Go.Proofs.Ytoocpofcmnnlfaa
open Go.RowKit Go.Shelf Tk
set_option linter.unusedVariables false
set_option linter.unusedSimpArgs false

/-- A table of n places: m is the least of them that is free (n: none is). -/
structure LeastAt (T : Tab) (n m : Nat) : Prop where
  good : T.good
  many : T.many = n
  age : ∀ i, T.age i ≤ 1
  le : m ≤ n
  tk : ∀ i, i < m → T.tk i = true
  no : m < n → T.tk m = false
theorem leastAt_drop {T : Tab} {n m p : Nat} (h : LeastAt T n m) (hp : T.tk p = true) : LeastAt (T.let p) n (min m p) := by
  refine ⟨Tab.good_let h.good p, h.many, h.age, by have := h.le; omega, fun i hi => ?_, fun hi => ?_⟩
  · have : ¬ i = p := by omega
    simp [Tab.let, this]; exact h.tk i (by omega)
  · by_cases e : min m p = p
    · rw [e]; simp [Tab.let]
    · have e2 : min m p = m := by omega
      rw [e2]
      have : ¬ m = p := by omega
      simp [Tab.let, this]
      exact h.no (by omega)
theorem leastAt_full {T : Tab} {n : Nat} (h : LeastAt T n n) : T.make = (T, 0, 3) ∧ T.list.length = n := by
  refine ⟨?_, ?_⟩
  · have hl : T.least = none := least_none fun i hi => by
      rw [h.many] at hi; simp [Tab.free, h.tk i hi]
    unfold Tab.make; rw [hl]
  · rw [Tab.list_len]
    unfold Tab.ps
    rw [List.filter_eq_self.2 (fun i hi => h.tk i (by rw [h.many] at hi; simpa using hi)), List.length_range, h.many]
theorem leastAt_make {T : Tab} {n m : Nat} (h : LeastAt T n m) (hm : m < n) : T.make = (T.take m, (T.age m + 1) * 256 + m, 0) := by
  have hl : T.least = some m := least_some (by rw [h.many]; exact hm) (fun i hi => by simp [Tab.free, h.tk i hi]) (by have := h.age m; simp [Tab.free, h.no hm]; omega)
  unfold Tab.make; rw [hl]
  simp [Tab.h, Tab.take]
theorem leastAt_tP {n : Nat} (h1 : 1 ≤ n) (h2 : n ≤ 256) : LeastAt (tP (fun _ => false) n n 0) n n :=
  ⟨tP_good h1 h2 (Nat.le_refl _), rfl, fun i => by simp only [tP]; split <;> omega, Nat.le_refl _, fun i hi => by simp [tP, hi], fun h => absurd h (Nat.lt_irrefl _)⟩

set_option maxRecDepth 100000 in
set_option maxHeartbeats 8000000 in
theorem handlesFull_walk (a0 : Int) (w0 : (Lit.int .u8 a0).wf = true) (A1 : Option Addr) (c1 : Nat) (xs : List Int) (hl1 : xs.length ≤ c1) (w : World) (hs0 : SlA w 0 w.heap.size .u8 A1 xs) (hf : ∀ x ∈ xs, (Lit.int .u8 x).wf = true) (hb : xs.length * 1 ≤ 140737488351232) :
    Calls Try.prog 8 #[.int .u8 a0, .slice A1 xs.length c1] w fun e w' => e = .returned (.bool true) ∧ w.grownBy w' none := by
  have hfit : Hid (∀ k, k < xs.length → 0 ≤ gd xs k ∧ gd xs k < 256) := fun k hk => wf_u8 (hf _ (gd_mem hk))
  clear hf
  obtain ⟨h0, h1⟩ := wf_u8 w0
  obtain ⟨q, rfl⟩ := Int.eq_ofNat_of_zero_le h0
  clear w0 h0
  by_cases hlen : 50 < xs.length
  · go_enter Try.func8, Try.ntmps8
    go_wp2_with fail
    refine (alive_any _).mono ?_; rintro e wd ⟨rfl, hg⟩
    go_wp2_with fail
    refine (alive_any _).mono ?_; rintro e we ⟨rfl, hg2⟩
    go_wp2_with fail
    go_ret
    exact ⟨rfl, grown_trans hg hg2⟩
  · obtain ⟨n, hn, hn1, hn2⟩ : ∃ n : Nat, (1 : Int) + (q : Int) % 40 = n ∧ 1 ≤ n ∧ n ≤ 40 := ⟨1 + q % 40, by omega, by omega, by omega⟩
    go_enter Try.func8, Try.ntmps8
    go_wp2_with fail
    refine (alive_any _).mono ?_; rintro e wd ⟨rfl, hg⟩
    have hs1 := hs0.kept hg (by simp)
    have hsz1 := hg.size
    clear hs0
    go_wp2_with fail
    try rw [hn]
    refine (new_any n hn1 (by omega) _).mono ?_; rintro e wa ⟨rfl, hA, hga, hsz⟩
    have hgw := grown_trans hg hga
    have hs2 := hs1.kept hga (by simp)
    rw [tP_zero (fun _ => false)] at hA
    clear hs1 hg hga
    go_wp2_with fail
    obtain ⟨B, hB⟩ : ∃ B, wd.heap.size = B := ⟨_, rfl⟩
    have hBw : w.heap.size ≤ B := by omega
    rw [hB] at hA ⊢
    clear hB hsz hn
    obtain ⟨t, ht⟩ : ∃ t, t = tP (fun _ => false) n := ⟨_, rfl⟩
    rw [← ht] at hA
    have hF : TF (fun _ => false) n t := ht ▸ tf_tP hn1 (by omega) (Nat.le_refl _)
    have hLA : Hid (LeastAt (t n 0) n n) := by rw [ht]; exact leastAt_tP hn1 (by omega)
    have hF := Lib.hid hF
    clear ht
    go_loopw [8, 9, 10] (fun i _ _ wr => ∃ j : Nat, j ≤ n ∧ i = .int .i64 j ∧ Arr wr B 513 (t j 0).v ∧ wa.grownBy wr (some B)) (fun i _ _ _ => n - (intOf i).toNat)
    case atStart => exact ⟨0, Nat.zero_le _, rfl, hA, grown_refl _ _⟩
    case round =>
      obtain ⟨j, hj, rfl, hA1, hg1⟩ := hrel
      by_cases hlt : j < n
      · go_wp2_with fail
        refine (make_as _ (t (j + 1) 0) _ 0 (256 + (j : Int)) (by omega) (hF.out.good _ _ hj).1 (hF.out.make _ hlt) _ _ hA1).mono ?_; rintro e w1 ⟨rfl, hA2, hg2⟩
        go_wp2_with fail
        go_roundw
        case rel => exact ⟨j + 1, by omega, by go_num, hA2, grown_trans hg1 hg2⟩
        case measure => simp [intOf]; omega
      · obtain rfl : j = n := by omega
        have hs3 := hs2.kept hg1 (by intro b hb; cases hb; right; omega)
        have hgw1 := grown_step hgw hg1 hBw
        clear hs2 hg1 hgw hA hF
        go_wp2_with fail
        go_loopw [11, 12, 13, 14] (fun l i _ _ wr2 => ∃ (k m : Nat) (T : Tab), k ≤ xs.length ∧ i = .int .i64 k ∧ l = .int .i64 m ∧ m ≤ j ∧ Hid (LeastAt T j m) ∧ Arr wr2 B 513 T.v ∧ wr.grownBy wr2 (some B)) (fun _ i _ _ _ => xs.length - (intOf i).toNat)
        case atStart => exact ⟨0, _, _, Nat.zero_le _, rfl, rfl, Nat.le_refl _, hLA, hA1, grown_refl _ _⟩
        case round =>
          obtain ⟨k, m, T, hk, rfl, rfl, hmj, hLA, hA2, hg2⟩ := hrel
          have hs4 := hs3.kept hg2 (by intro b hb; cases hb; right; omega)
          have hgw2 := grown_step hgw1 hg2 hBw
          obtain ⟨⟨T9, h9, e9⟩, hM⟩ : ∃ p, T.make = p := ⟨_, rfl⟩
          have hM := Lib.hid hM
          clear hA1 hgw1
          obtain ⟨n, hn⟩ : ∃ n, j = n := ⟨_, rfl⟩
          subst hn
          by_cases hlt : k < xs.length
          · obtain ⟨b, o, rfl, hc⟩ := hs4.at hlt
            obtain ⟨f1, f2⟩ := hfit.out k hlt
            obtain ⟨y, hy⟩ := Int.eq_ofNat_of_zero_le f1
            rw [hy] at hc f2
            have hy := Lib.hid hy
            go_wp2_with fail
            refine (list_any T hLA.out.good.1.1 hLA.out.good.1.2.2 _ _ hA2).mono ?_; rintro e w2 ⟨A, c, rfl, hlc, hsl, hg3⟩
            have hA3 := hA2.kept hg3 (by simp)
            have hg4 := grown_trans hg2 (grown_weaken (some B) hg3)
            have hs5 := hs4.kept hg3 (by simp)
            have hc2 := hs5.cell hlt
            rw [hy.out] at hc2
            have hL := Lib.hid T.list_len
            have hLm : T.list.length ≤ 256 := Nat.le_trans (upto_len T T.many) hLA.out.good.1.2.2
            have hgw3 := grown_trans hgw2 hg3
            clear hA2 hs3 hs4 hg3 hg2 hgw2
            by_cases hl0 : 0 < T.list.length
            · obtain ⟨i, hi, hi2⟩ : ∃ i : Nat, ((y : Int) % (T.list.length : Int)) = i ∧ i < T.list.length := by
                have : ((y : Int) % (T.list.length : Int)) = ((y % T.list.length : Nat) : Int) := by simp
                exact ⟨_, this, Nat.mod_lt _ hl0⟩
              have hl0' : ((T.list.length : Int) == 0) = false := by rw [beq_eq_false_iff_ne]; omega
              have hi3 : i < T.ps.length := by rw [← hL.out]; exact hi2
              obtain ⟨b2, o2, rfl, hc3⟩ := hsl.at hi2
              have hat := Tab.at_mem hi3
              have hp256 : T.at i < 256 := Nat.lt_of_lt_of_le hat.1 hLA.out.good.1.2.2
              have hxm := Tab.h_mod (t := T) hp256
              have hgl : gd T.list i = (T.h (T.at i) : Int) := Tab.gd_list hi3
              have hxm' : (gd T.list i % 256) = (T.at i : Int) := by rw [hgl]; omega
              have hd2 := Lib.hid (leastAt_drop hLA.out hat.2)
              have hgl2 : 0 ≤ gd T.list i ∧ gd T.list i < 4294967296 := by rw [hgl]; have := Tab.h_lt hLA.out.good.1 hp256; omega
              have hi4 := Lib.hid hi3
              clear hsl hs5 hat hgl hxm hi3
              by_cases hpm : T.at i < m
              · have hmin : Hid (min m (T.at i) = T.at i) := by show _ = _; omega
                go_wp2_with fail
                refine (drop_at T hLA.out.good i hi4.out _ _ rfl _ hA3).mono ?_; rintro e w3 ⟨rfl, hA4, hg5⟩
                go_wp2_with fail
                go_roundw
                case rel => exact ⟨k + 1, T.at i, _, by omega, by go_num, rfl, by omega, by have := hd2.out; rw [hmin.out] at this; exact Lib.hid this, hA4, grown_trans hg4 hg5⟩
                case measure => simp [intOf]; omega
              · have hmin : Hid (min m (T.at i) = m) := by show _ = _; omega
                go_wp2_with fail
                refine (drop_at T hLA.out.good i hi4.out _ _ rfl _ hA3).mono ?_; rintro e w3 ⟨rfl, hA4, hg5⟩
                go_wp2_with fail
                go_roundw
                case rel => exact ⟨k + 1, m, _, by omega, by go_num, rfl, hmj, by have := hd2.out; rw [hmin.out] at this; exact Lib.hid this, hA4, grown_trans hg4 hg5⟩
                case measure => simp [intOf]; omega
            · have hl0' : ((T.list.length : Int) == 0) = true := by rw [beq_iff_eq]; omega
              clear hsl hs5
              have hAx := hA3
              have hgx := hgw3
              go_wp2_with fail
              refine (make_is T _ _ _ hLA.out.good.1 hM.out _ _ hAx).mono ?_; rintro e w8 ⟨rfl, hA8, hg8⟩
              have hgw8 := grown_step hgx hg8 hBw
              by_cases hmn : m = j
              · have hmn' : ((m : Int) == (j : Int)) = true := by simp [hmn]
                have hT' := Lib.hid ((leastAt_full (hmn ▸ hLA.out)).1)
                rw [hM.out, Prod.mk.injEq, Prod.mk.injEq] at hT'
                obtain ⟨e1, e2, e3⟩ := hT'.out
                subst e1 e2 e3
                have hln := (leastAt_full (hmn ▸ hLA.out)).2
                have hln' : ((T9.list.length : Int) == (j : Int)) = true := by simp [hln]
                clear hmn hln
                go_wp2_with fail
                refine (list_any T9 hLA.out.good.1.1 hLA.out.good.1.2.2 _ _ hA8).mono ?_; rintro e w9 ⟨A9, c9, rfl, hlc9, -, hg9⟩
                go_wp2_with fail
                go_ret
                exact ⟨rfl, grown_trans hgw8 hg9⟩
              · have hmn' : ((m : Int) == (j : Int)) = false := by simp; omega
                have hlt9 : m < j := by have := hLA.out.le; omega
                have hT' := Lib.hid (leastAt_make hLA.out hlt9)
                rw [hM.out, Prod.mk.injEq, Prod.mk.injEq] at hT'
                obtain ⟨e1, e2, e3⟩ := hT'.out
                subst e3
                have hx : ((h9 : Int) % 256) = (m : Int) := by rw [e2]; have := hLA.out.le; omega
                have hh9 : h9 < 4294967296 := by rw [e2]; have := hLA.out.age m; have := hLA.out.le; omega
                clear hmn e1 e2 hT'
                go_wp2_with fail
                go_ret
                exact ⟨rfl, hgw8⟩
          · have hAx := hA2
            have hgx := hgw2
            go_wp2_with fail
            refine (make_is T _ _ _ hLA.out.good.1 hM.out _ _ hAx).mono ?_; rintro e w8 ⟨rfl, hA8, hg8⟩
            have hgw8 := grown_step hgx hg8 hBw
            by_cases hmn : m = j
            · have hmn' : ((m : Int) == (j : Int)) = true := by simp [hmn]
              have hT' := Lib.hid ((leastAt_full (hmn ▸ hLA.out)).1)
              rw [hM.out, Prod.mk.injEq, Prod.mk.injEq] at hT'
              obtain ⟨e1, e2, e3⟩ := hT'.out
              subst e1 e2 e3
              have hln := (leastAt_full (hmn ▸ hLA.out)).2
              have hln' : ((T9.list.length : Int) == (j : Int)) = true := by simp [hln]
              clear hmn hln
              go_wp2_with fail
              refine (list_any T9 hLA.out.good.1.1 hLA.out.good.1.2.2 _ _ hA8).mono ?_; rintro e w9 ⟨A9, c9, rfl, hlc9, -, hg9⟩
              go_wp2_with fail
              go_ret
              exact ⟨rfl, grown_trans hgw8 hg9⟩
            · have hmn' : ((m : Int) == (j : Int)) = false := by simp; omega
              have hlt9 : m < j := by have := hLA.out.le; omega
              have hT' := Lib.hid (leastAt_make hLA.out hlt9)
              rw [hM.out, Prod.mk.injEq, Prod.mk.injEq] at hT'
              obtain ⟨e1, e2, e3⟩ := hT'.out
              subst e3
              have hx : ((h9 : Int) % 256) = (m : Int) := by rw [e2]; have := hLA.out.le; omega
              have hh9 : h9 < 4294967296 := by rw [e2]; have := hLA.out.age m; have := hLA.out.le; omega
              clear hmn e1 e2 hT'
              go_wp2_with fail
              go_ret
              exact ⟨rfl, hgw8⟩
end Go.Proofs.Ytoocpofcmnnlfaa
