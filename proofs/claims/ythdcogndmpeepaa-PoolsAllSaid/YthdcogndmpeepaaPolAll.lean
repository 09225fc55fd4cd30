/- PoolsAll. -/
import Derived.Test.YthdcogndmpeepaaPolA
namespace Go.Proofs.Ythdcogndmpeepaa
open Go.RowKit Go.Shelf Tk
set_option linter.unusedVariables false
set_option linter.unusedSimpArgs false

/-- The first k blocks are those', in order; the others nobody's. -/
def al (xs : List Int) (N k : Nat) : List Int := (xs.take k).map (· + 1) ++ List.replicate (N - k) 0
theorem al_zero (xs : List Int) (N : Nat) : al xs N 0 = List.replicate N 0 := by simp [al]
theorem al_len {xs : List Int} {N k : Nat} (h : k ≤ N) (hx : k ≤ xs.length) : (al xs N k).length = N := by simp [al]; omega
theorem gd_al_lt {xs : List Int} {N k i : Nat} (hx : k ≤ xs.length) (hi : i < k) : gd (al xs N k) i = gd xs i + 1 := by
  unfold al gd
  rw [List.getElem?_append_left (by simp; omega), List.getElem?_map, List.getElem?_take_of_lt hi, List.getElem?_eq_getElem (by omega)]
  rfl
theorem gd_al_ge {xs : List Int} {N k i : Nat} (hx : k ≤ xs.length) (hi : k ≤ i) : gd (al xs N k) i = 0 := by
  unfold al gd
  rw [List.getElem?_append_right (by simp; omega)]
  by_cases h : i - (List.map (fun x => x + 1) (xs.take k)).length < N - k
  · rw [List.getElem?_replicate, if_pos h]; rfl
  · rw [List.getElem?_eq_none (by simpa using h)]; rfl
theorem al_set {xs : List Int} {N k : Nat} (h : k < N) (hx : k < xs.length) : (al xs N k).set k (gd xs k + 1) = al xs N (k + 1) := by
  apply ext_gd (by rw [List.length_set, al_len (by omega) (by omega), al_len (by omega) (by omega)])
  intro i hi
  rw [gd_set (by rw [al_len (by omega) (by omega)]; exact h)]
  by_cases e : i = k
  · subst e; rw [if_pos rfl, gd_al_lt (by omega) (by omega)]
  · rw [if_neg e]
    by_cases h1 : i < k
    · rw [gd_al_lt (by omega) h1, gd_al_lt (by omega) (by omega)]
    · rw [gd_al_ge (by omega) (by omega), gd_al_ge (by omega) (by omega)]
theorem take_snocA {xs : List Int} {k : Nat} (h : k < xs.length) : xs.take (k + 1) = xs.take k ++ [gd xs k] := (take_snoc h).symm
theorem count_al {xs : List Int} {N k : Nat} {v : Int} (hv : 0 ≤ v) : (al xs N k).count (v + 1) = (xs.take k).count v := by
  have hm : ∀ l : List Int, (l.map (· + 1)).count (v + 1) = l.count v := fun l => by
    induction l with
    | nil => rfl
    | cons x l ih =>
      rw [List.map_cons, List.count_cons, List.count_cons, ih]
      congr 1
      by_cases e : x = v
      · subst e; simp
      · have h1 : (x == v) = false := by rw [beq_eq_false_iff_ne]; exact e
        have h2 : (x + 1 == v + 1) = false := by rw [beq_eq_false_iff_ne]; omega
        rw [h1, h2]
  have hr : (List.replicate (N - k) (0 : Int)).count (v + 1) = 0 := List.count_eq_zero.2 (fun h => by have := List.eq_of_mem_replicate h; omega)
  unfold al
  rw [List.count_append, hm, hr]; rfl
theorem gd_map {os : List Int} {v : Int} {i : Nat} (hi : i < os.length) : gd (os.map fun x => if x = v then 0 else x) i = if gd os i = v then 0 else gd os i := by
  rw [gd_lt (by simpa using hi), gd_lt hi, List.getElem_map]
theorem map_gone {os : List Int} {v : Int} (hv : v ≠ 0) : ∀ x ∈ os.map (fun x => if x = v then 0 else x), x ≠ v := fun x hx => by
  rw [List.mem_map] at hx
  obtain ⟨y, -, rfl⟩ := hx
  by_cases h : y = v
  · rw [if_pos h]; exact fun e => hv e.symm
  · rw [if_neg h]; exact h
set_option maxRecDepth 100000 in
set_option maxHeartbeats 8000000 in
theorem poolsAll_walk (m : Int) (wm : (Lit.int .u8 m).wf = true) (A1 : Option Addr) (c1 : Nat) (xs : List Int) (hl1 : xs.length ≤ c1) (v : Int) (wv : (Lit.int .u8 v).wf = true) (w : World)
    (hs1 : SlA w 0 w.heap.size .u8 A1 xs) (hf1 : ∀ x ∈ xs, (Lit.int .u8 x).wf = true) (hb1 : xs.length * 1 ≤ 140737488351232) :
    Calls Try.prog 5 #[.int .u8 m, .slice A1 xs.length c1, .int .u8 v] w fun e w' => e = .returned (.bool true) ∧ w.grownBy w' none := by
  obtain ⟨m1, m2⟩ := wf_u8 wm
  obtain ⟨v1, v2⟩ := wf_u8 wv
  clear wm wv
  have hfit : Hid (∀ i, i < xs.length → 0 ≤ gd xs i ∧ gd xs i < 256) := fun i hi => wf_u8 (hf1 _ (gd_mem hi))
  clear hf1
  by_cases hlen : 100 < xs.length
  · have hd : decide ((100 : Int) < (xs.length : Int)) = true := decide_eq_true (by omega)
    clear hlen
    go_enter Try.func5, Try.ntmps5
    go_wp2_with fail
    refine (alive_any _).mono ?_; rintro e wd ⟨rfl, hg⟩
    go_wp2_with fail
    refine (alive_any _).mono ?_; rintro e we ⟨rfl, hg2⟩
    go_wp2_with fail
    go_ret
    exact ⟨rfl, grown_trans hg hg2⟩
  · have hx : xs.length ≤ 100 := by omega
    have hd : decide ((100 : Int) < (xs.length : Int)) = false := decide_eq_false (by omega)
    clear hlen
    obtain ⟨N, hN, hN1, hN2⟩ : ∃ N : Nat, (1 + m % 64) = (N : Int) ∧ 1 ≤ N ∧ N ≤ 64 := ⟨(m % 64).toNat + 1, by omega, by omega, by omega⟩
    replace hN := Lib.hid hN
    have hK1 := Lib.hid (fun wr (h : w.grownBy wr none) => hs1.kept h (by simp))
    clear hs1
    go_enter Try.func5, Try.ntmps5
    go_wp2_with fail
    refine (alive_any _).mono ?_; rintro e wd ⟨rfl, hg⟩
    have hwd := hg.size
    go_wp2_with fail
    refine (of_ok m m1 m2 N hN.out _).mono ?_; rintro e wa ⟨rfl, hP, hga, hsz⟩
    have hgw := grown_trans hg hga
    obtain ⟨B, hB⟩ : ∃ B, wd.heap.size = B := ⟨_, rfl⟩
    have hBw : w.heap.size ≤ B := by omega
    rw [hB] at hP ⊢
    clear hB hsz hg hga
    go_wp2_with fail
    go_loopw [8, 9, 10, 11] (fun n i _ _ wr => ∃ k : Nat, k ≤ xs.length ∧ k ≤ N ∧ i = .int .i64 k ∧ n = .int .i64 ((xs.take k).count v) ∧ Pl wr B (al xs N k) ∧ w.grownBy wr none) (fun _ i _ _ _ => xs.length - (intOf i).toNat)
    case atStart => exact ⟨0, Nat.zero_le _, Nat.zero_le _, rfl, rfl, by rw [al_zero]; exact hP, hgw⟩
    case round =>
      obtain ⟨k, hk, hkN, rfl, rfl, hP, hg⟩ := hrel
      have hck : (xs.take k).count v ≤ 64 := Nat.le_trans List.count_le_length (by rw [List.length_take]; omega)
      by_cases hlt : k < xs.length ∧ k < N
      · obtain ⟨hlt, hltN⟩ := hlt
        have hdN : decide ((k : Int) < 1 + m % 64) = true := by rw [hN.out]; exact decide_eq_true (by omega)
        obtain ⟨b1, o1, rfl, hc⟩ := (hK1.out _ hg).at hlt
        obtain ⟨f1, f2⟩ := hfit.out k hlt
        have has := Lib.hid (al_set hltN hlt)
        have hts := Lib.hid (take_snocA hlt)
        have hge0 : Hid (gd (al xs N k) k = 0) := gd_al_ge hk (Nat.le_refl _)
        have hlt0 : Hid (∀ i, i < k → gd (al xs N k) i ≠ 0) := fun i hi => by rw [gd_al_lt hk hi]; have := (hfit.out i (by omega)).1; omega
        have hln := Lib.hid (al_len hkN hk)
        generalize hxk : gd xs k = x at *
        replace hxk := Lib.hid hxk
        have hkk := hltN
        go_wp2_with fail
        refine (alloc_at (x + 1) (by omega) k (by rw [hln.out]; exact hltN) hge0.out hlt0.out _ hP).mono ?_; rintro e w1 ⟨rfl, hP1, g1⟩
        have hg1 := grown_step hg g1 hBw
        have hc1 := (hK1.out _ hg1).cell hlt
        rw [hxk.out] at hc1
        rw [has.out] at hP1
        clear hc
        by_cases hxv : x = v
        · have hb : (x == v) = true := by rw [beq_iff_eq]; exact hxv
          have hcc : Hid ((xs.take (k + 1)).count v = (xs.take k).count v + 1) := by show _ = _; rw [hts.out, List.count_append, hxv]; simp
          replace hxv := Lib.hid hxv
          go_wp2_with fail
          go_roundw
          case rel => exact ⟨k + 1, by omega, by omega, by go_num, by rw [hcc.out]; go_num, hP1, hg1⟩
          case measure => simp [intOf]; omega
        · have hb : (x == v) = false := by rw [beq_eq_false_iff_ne]; exact hxv
          have hcc : Hid ((xs.take (k + 1)).count v = (xs.take k).count v) := by show _ = _; rw [hts.out, List.count_append, List.count_singleton, if_neg (by simp [hxv])]; rfl
          replace hxv := Lib.hid hxv
          go_wp2_with fail
          go_roundw
          case rel => exact ⟨k + 1, by omega, by omega, by go_num, by rw [hcc.out], hP1, hg1⟩
          case measure => simp [intOf]; omega
      · have hcase : xs.length = k ∨ (k < xs.length ∧ N ≤ k ∧ decide ((k : Int) < 1 + m % 64) = false) := by
          by_cases h1 : k < xs.length
          · right; exact ⟨h1, by omega, by rw [hN.out]; exact decide_eq_false (by omega)⟩
          · left; omega
        have hln := Lib.hid (al_len hkN hk)
        have hca := Lib.hid (count_al (xs := xs) (N := N) (k := k) v1)
        have hgn := Lib.hid (map_gone (os := al xs N k) (v := v + 1) (by omega))
        obtain ⟨os, hos⟩ : ∃ os, al xs N k = os := ⟨_, rfl⟩
        obtain ⟨n, hn⟩ : ∃ n, (xs.take k).count v = n := ⟨_, rfl⟩
        rw [hos] at hP hln hca hgn
        rw [hn] at hca hck ⊢
        have hgm := Lib.hid (fun i (hi : i < os.length) => gd_map (os := os) (v := v + 1) hi)
        replace hos := Lib.hid hos
        replace hn := Lib.hid hn
        clear hlt
        rcases hcase with h1 | ⟨h1, h2, h3⟩
        all_goals
          have how1 := owners_ok _ hP
          rw [hln.out] at how1
          replace how1 := Lib.hid how1
          have hBr := hP.arr.lt
          go_wp2_with fail
          refine how1.out.mono ?_; rintro e w1 ⟨A2, k2, rfl, hk2, hM2, g1⟩
          have hg1 := grown_trans hg g1
          have hP1 := hP.keep g1
          have hs2 := hM2.sl
          have hB1 := hP1.arr.lt
          clear hP hM2
          go_wp2_with fail
          refine (all_zero _ _).mono ?_; rintro e w2 ⟨rfl, g2⟩
          have hg2 := grown_trans hg1 g2
          have hP2 := hP1.keep g2
          have hs3 := hs2.kept g2 (by simp)
          clear hP1 hs2 hg1 g1
          go_wp2_with fail
          have hall := all_blocks (v + 1) (by omega) _ hP2
          rw [hca.out] at hall
          replace hall := Lib.hid hall
          refine hall.out.mono ?_; rintro e w3 ⟨rfl, hP3, g3⟩
          have hg3 := grown_step hg2 g3 hBw
          have hs4 := hs3.kept g3 (by rintro b hb; cases hb; left; exact hBr)
          go_wp2_with fail
          refine (all_none (v + 1) (by omega) hgn.out _ hP3).mono ?_; rintro e w4 ⟨rfl, hP4, g4⟩
          have hg4 := grown_step hg3 g4 hBw
          have hs5 := hs4.kept g4 (by rintro b hb; cases hb; left; exact hBr)
          go_wp2_with fail
          have how := owners_ok _ hP4
          rw [List.length_map, hln.out] at how
          replace how := Lib.hid how
          refine how.out.mono ?_; rintro e w5 ⟨A3, k3, rfl, hk3, hM3, g5⟩
          have hg5 := grown_trans hg4 g5
          have hs6 := hs5.kept g5 (by simp)
          have hs7 := hM3.sl
          obtain ⟨W, hW⟩ : ∃ W, w5 = W := ⟨_, rfl⟩
          rw [hW] at hs6 hs7 hg5 ⊢
          clear hW hM3 hs5 hs4 hs3 hP4 hP3 hP2 g5 g4 g3 g2
          go_wp2_with fail
          go_loopw [14, 15] (fun i _ wr => ∃ q : Nat, q ≤ N ∧ i = .int .i64 q ∧ Drawn W wr) (fun i _ _ => N - (intOf i).toNat)
          case atStart => exact ⟨0, Nat.zero_le _, rfl, Drawn.refl _⟩
          case round =>
            obtain ⟨q, hq, rfl, hdr⟩ := hrel
            by_cases hqN : q < N
            · have hql : q < os.length := by rw [hln.out]; exact hqN
              obtain ⟨b2, o2, rfl, hc2⟩ := (hdr.sl hs6).at hql
              obtain ⟨b3, o3, rfl, hc3⟩ := (hdr.sl hs7).at (i := q) (by rw [List.length_map]; exact hql)
              rw [hgm.out q hql] at hc3
              clear hql
              by_cases he : gd os q = v + 1
              · rw [if_pos he] at hc3
                rw [he] at hc2
                replace he := Lib.hid he
                go_wp2_with fail
                go_roundw
                case rel => exact ⟨q + 1, by omega, by go_num, hdr⟩
                case measure => simp [intOf]; omega
              · rw [if_neg he] at hc3
                have hb : (gd os q == v + 1) = false := by rw [beq_eq_false_iff_ne]; exact he
                replace he := Lib.hid he
                go_wp2_with fail
                go_roundw
                case rel => exact ⟨q + 1, by omega, by go_num, hdr⟩
                case measure => simp [intOf]; omega
            · go_wp2_with fail
              go_ret
              exact ⟨rfl, hdr.grown hg5⟩
end Go.Proofs.Ythdcogndmpeepaa
