/- RingsOrder. -/
import Derived.Test.YtmjcanamfijdjaaRngA
namespace Go.Proofs.Ytmjcanamfijdjaa
open Go.RowKit Go.Shelf Tk
set_option linter.unusedVariables false
set_option linter.unusedSimpArgs false

theorem SlA_drop {w : World} {lo hi : Nat} {k : IntKind} {b o : Nat} {xs : List Int} (h : SlA w lo hi k (some ⟨b, o, none⟩) xs) (m : Nat) : SlA w lo hi k (some ⟨b, o + m, none⟩) (xs.drop m) := by
  refine ⟨h.1, ?_⟩
  rcases h.2 with rfl | ⟨b', o', hA, h1, h2, hc⟩
  · left; simp
  · cases hA
    right; exact ⟨b, o + m, rfl, h1, h2, fun i hi => by
      have := hc (m + i) (by simp at hi; omega)
      rw [show o + m + i = o + (m + i) by omega, this]; simp⟩
theorem drop_cons {xs : List Int} {k : Nat} (h : k < xs.length) : xs.drop k = gd xs k :: xs.drop (k + 1) := by
  rw [gd_lt h, List.drop_eq_getElem_cons h]
/-- What is in the ring when i were pushed. -/
def pushd (U : List Int) (k i : Nat) : List Int := (U.take i).reverse ++ U.drop k
theorem pushd_zero (U : List Int) (k : Nat) : pushd U k 0 = U.drop k := by simp [pushd]
theorem pushd_succ {U : List Int} {k i : Nat} (h : i < U.length) : pushd U k (i + 1) = gd U i :: pushd U k i := by
  unfold pushd; rw [← take_snoc h]; simp
theorem pushd_len {U : List Int} {k i : Nat} (hi : i ≤ k) (hk : k ≤ U.length) : (pushd U k i).length = i + (U.length - k) := by simp [pushd]; omega
theorem pushd_no {U : List Int} {k i : Nat} (hnd : U.Nodup) (hi : i < k) (hk : k ≤ U.length) : gd U i ∉ pushd U k i := by
  intro hm
  rw [gd_lt (by omega)] at hm
  unfold pushd at hm
  rw [List.mem_append, List.mem_reverse] at hm
  rcases hm with hm | hm
  · obtain ⟨j, hj, he⟩ := List.mem_iff_getElem.1 hm
    rw [List.length_take] at hj
    rw [List.getElem_take] at he
    have := (List.getElem_inj hnd).1 he
    omega
  · obtain ⟨j, hj, he⟩ := List.mem_iff_getElem.1 hm
    rw [List.length_drop] at hj
    rw [List.getElem_drop] at he
    have := (List.getElem_inj hnd).1 he
    omega
theorem gd_pushd {U : List Int} {k i : Nat} (hk : k ≤ U.length) (hi : i < U.length) : gd (pushd U k k) i = if i < k then gd U (k - 1 - i) else gd U i := by
  unfold pushd gd
  by_cases h : i < k
  · rw [List.getElem?_append_left (by simp; omega), if_pos h, List.getElem?_reverse (by simp; omega), List.length_take, Nat.min_eq_left hk, List.getElem?_take_of_lt (by omega)]
  · rw [List.getElem?_append_right (by simp; omega), if_neg h]
    simp only [List.length_reverse, List.length_take, List.getElem?_drop, Nat.min_eq_left hk]
    congr 2; omega
set_option maxRecDepth 100000 in
set_option maxHeartbeats 8000000 in
theorem ringsOrder_walk (A0 : Option Addr) (c0 : Nat) (xs : List Int) (hl0 : xs.length ≤ c0) (t : Int) (wt : (Lit.int .u8 t).wf = true) (w : World)
    (hs0 : SlA w 0 w.heap.size .u8 A0 xs) (hf0 : ∀ x ∈ xs, (Lit.int .u8 x).wf = true) (hb0 : xs.length * 1 ≤ 140737488351232) :
    Calls Try.prog 4 #[.slice A0 xs.length c0, .int .u8 t] w fun e w' => e = .returned (.bool true) ∧ w.grownBy w' none := by
  have hfit : ∀ x ∈ xs, 0 ≤ x ∧ x < 256 := fun x hx => wf_u8 (hf0 x hx)
  replace hfit := Lib.hid hfit
  clear hf0
  by_cases hlen : 200 < xs.length
  · have hd : decide ((200 : Int) < (xs.length : Int)) = true := decide_eq_true (by omega)
    clear hlen
    go_enter Try.func4, Try.ntmps4
    go_wp2_with fail
    refine (alive_any _).mono ?_; rintro e wd ⟨rfl, hg⟩
    go_wp2_with fail
    refine (alive_any _).mono ?_; rintro e we ⟨rfl, hg2⟩
    go_wp2_with fail
    go_ret
    exact ⟨rfl, grown_trans hg hg2⟩
  · have hx : xs.length ≤ 200 := by omega
    have hd : decide ((200 : Int) < (xs.length : Int)) = false := decide_eq_false (by omega)
    clear hlen
    obtain ⟨t1, t2⟩ := wf_u8 wt
    clear wt
    obtain ⟨T, rfl⟩ := Int.eq_ofNat_of_zero_le t1
    clear t1
    go_enter Try.func4, Try.ntmps4
    go_wp2_with fail
    refine (alive_any _).mono ?_; rintro e wd ⟨rfl, hg⟩
    go_wp2_with fail
    refine (unlike_any A0 c0 xs hx _ _ _ (hs0.kept hg (by simp)) hfit.out).mono ?_; rintro e wu ⟨AU, kU, U, rfl, hkU, hMU, hnd, hsub, hUl, hne, gU⟩
    have hgU := grown_trans hg gU
    have hsU := hMU.sl
    obtain ⟨AU', kk, hee, -, hkU2, hF⟩ := hMU.form
    simp only [Value.slice.injEq] at hee
    obtain ⟨rfl, -, rfl⟩ := hee
    obtain ⟨N, hN⟩ : ∃ N, U.length = N := ⟨_, rfl⟩
    rw [hN] at hkU hUl ⊢
    replace hN := Lib.hid hN
    have hU0' : Hid (∀ x ∈ U, 0 ≤ x) := fun x hx => (hfit.out x (hsub x hx)).1
    replace hnd := Lib.hid hnd
    clear hsub hne hs0 hg gU hMU
    have hNx : N ≤ 200 := by omega
    have hsz := hgU.size
    by_cases hN0 : 0 < N
    · rcases hF with ⟨-, h9⟩ | ⟨g, rfl, -, -⟩
      · exfalso; have := hN.out; rw [h9] at this; simp at this; omega
      obtain ⟨k, hk, hkN, hkk⟩ : ∃ k : Nat, ((T : Int) % (N : Int)) = k ∧ k < N ∧ T % N = k := ⟨T % N, by simp, Nat.mod_lt _ hN0, rfl⟩
      have hq1 : ¬ kU = T % N := by omega
      have hq2 : (T : Int) % (N : Int) ≤ (N : Int) := by omega
      have hq3 : T % N ≤ N := by omega
      have hq4 : T % N < N := by omega
      have hNz : ¬ N = 0 := by omega
      have hb0 : (0 : Int) ≤ (T : Int) % (N : Int) := by omega
      have hb1 : (T : Int) % (N : Int) ≤ 200 := by omega
      have hN0I : (0 : Int) < (N : Int) := by omega
      replace hk := Lib.hid hk
      replace hkk := Lib.hid hkk
      have hdU : ((U.drop k).length = N - k) := by rw [List.length_drop, hN.out]
      have hndk : (U.drop k).Nodup := List.Nodup.sublist (List.drop_sublist _ _) hnd.out
      have hgek : ∀ x ∈ U.drop k, 0 ≤ x := fun x hx => hU0'.out x (List.mem_of_mem_drop hx)
      have hsd := SlA_drop hsU k
      rw [Nat.zero_add] at hsd
      replace hdU := Lib.hid hdU
      replace hndk := Lib.hid hndk
      replace hgek := Lib.hid hgek
      go_wp2_with fail
      rw [hkk.out, hk.out]
      clear hq1 hq2 hq3 hq4 hb0 hb1
      refine (filled_ok _ _ (U.drop k) (N - k) (k + 1) (N + 1) hdU.out (by omega) (by omega) (by omega) hndk.out hgek.out _ (by push_cast; rfl) _ _ _ hsd).mono ?_; rintro e wf ⟨B, M, f, c, rfl, hR, hM, hB, gf⟩
      have hgf := grown_trans hgU gf
      have hBw : w.heap.size ≤ B := Nat.le_trans hsz hB
      have hMw : w.heap.size ≤ M := Nat.le_trans hsz hM
      have hsU1 := hsU.kept gf (by simp)
      rw [← pushd_zero U k] at hR
      clear hgU gf hsU hsd hdU hndk hgek
      go_wp2_with fail
      go_loopw [8] (fun i wr => ∃ (q f : Nat) (c : Nat → Int), q ≤ k ∧ i = .int .i64 q ∧ Rg wr B M (N + 1) (pushd U k q) f c ∧ SlA wr wd.heap.size wu.heap.size .i64 (some ⟨g, 0, none⟩) U ∧ w.grownBy wr none) (fun i _ => k - (intOf i).toNat)
      case atStart => exact ⟨0, f, c, Nat.zero_le _, rfl, hR, hsU1, hgf⟩
      case round =>
        obtain ⟨q, f, c, hq, rfl, hR, hs, hg⟩ := hrel
        by_cases hlt : q < k
        · have hqN : q < N := by omega
          have hc := hs.cell (i := q) (by rw [hN.out]; exact hqN)
          rw [Nat.zero_add] at hc
          have hr : Hid (putRes (pushd U k q) (N + 1) (gd U q) = 0) := putRes_zero (hU0'.out _ (gd_mem (by rw [hN.out]; exact hqN))) (pushd_no hnd.out hlt (by rw [hN.out]; omega)) (by rw [pushd_len hq (by rw [hN.out]; omega), hN.out]; omega)
          have hps := Lib.hid (pushd_succ (U := U) (k := k) (i := q) (by rw [hN.out]; exact hqN))
          go_wp2_with fail
          refine (push_ok _ hr.out hR).mono ?_; rintro e w1 ⟨rfl, ⟨f1, c1, hR1⟩, g1⟩
          have hg1 := fr_step hg g1 hBw hMw
          have hs1 := hs.fr g1 (by rintro b h1 h2 (rfl | rfl) <;> omega)
          go_wp2_with fail
          go_roundw
          case rel => exact ⟨q + 1, f1, c1, by omega, by go_num, by rw [hps.out]; exact hR1, hs1, hg1⟩
          case measure => simp [intOf] <;> omega
        · obtain rfl : k = q := by omega
          have hWl : Hid ((pushd U k k).length = N) := by show _ = _; rw [pushd_len (Nat.le_refl _) (by rw [hN.out]; omega), hN.out]; omega
          have hWg : Hid (∀ i, i < N → gd (pushd U k k) i = if i < k then gd U (k - 1 - i) else gd U i) := fun i hi => gd_pushd (by rw [hN.out]; omega) (by rw [hN.out]; exact hi)
          obtain ⟨W, hW⟩ : ∃ W, pushd U k k = W := ⟨_, rfl⟩
          rw [hW] at hR hWl hWg
          rw [← List.drop_zero (l := W)] at hR
          replace hW := Lib.hid hW
          clear hsU1 hgf hlt
          go_wp2_with fail
          go_loopw [9, 10, 11, 12] (fun i _ _ _ wr => ∃ (q f : Nat) (c : Nat → Int), q ≤ N ∧ i = .int .i64 q ∧ Rg wr B M (N + 1) (W.drop q) f c ∧ SlA wr wd.heap.size wu.heap.size .i64 (some ⟨g, 0, none⟩) U ∧ w.grownBy wr none) (fun i _ _ _ _ => N - (intOf i).toNat)
          case atStart => exact ⟨0, f, c, Nat.zero_le _, rfl, hR, hs, hg⟩
          case round =>
            obtain ⟨q, f, c, hq, rfl, hR, hs, hg⟩ := hrel
            by_cases hlt : q < N
            · have hc := hs.cell (i := q) (by rw [hN.out]; exact hlt)
              rw [Nat.zero_add] at hc
              have hdc := drop_cons (xs := W) (k := q) (by rw [hWl.out]; exact hlt)
              have hwg := hWg.out q hlt
              rw [hdc] at hR
              replace hdc := Lib.hid hdc
              by_cases hqk : q < k
              · rw [if_pos hqk] at hwg
                rw [hwg] at hR
                replace hwg := Lib.hid hwg
                obtain ⟨z, hz, hzI⟩ : ∃ z : Nat, k - 1 - q = z ∧ (k : Int) - 1 - (q : Int) = z := ⟨k - 1 - q, rfl, by omega⟩
                have hzN : z < N := by omega
                have hcz := hs.cell (i := z) (by rw [hN.out]; exact hzN)
                rw [Nat.zero_add] at hcz
                rw [hz] at hR
                replace hz := Lib.hid hz
                go_wp2_with fail
                refine (take_ok hR).mono ?_; rintro e w1 ⟨rfl, ⟨f1, c1, hR1⟩, g1⟩
                have hg1 := fr_step hg g1 hBw hMw
                have hs1 := hs.fr g1 (by rintro b h1 h2 (rfl | rfl) <;> omega)
                go_wp2_with fail
                go_roundw
                case rel => exact ⟨q + 1, f1, c1, by omega, by go_num, hR1, hs1, hg1⟩
                case measure => simp [intOf] <;> omega
              · rw [if_neg hqk] at hwg
                rw [hwg] at hR
                replace hwg := Lib.hid hwg
                go_wp2_with fail
                refine (take_ok hR).mono ?_; rintro e w1 ⟨rfl, ⟨f1, c1, hR1⟩, g1⟩
                have hg1 := fr_step hg g1 hBw hMw
                have hs1 := hs.fr g1 (by rintro b h1 h2 (rfl | rfl) <;> omega)
                go_wp2_with fail
                go_roundw
                case rel => exact ⟨q + 1, f1, c1, by omega, by go_num, hR1, hs1, hg1⟩
                case measure => simp [intOf] <;> omega
            · rw [List.drop_eq_nil_of_le (by rw [hWl.out]; omega)] at hR
              go_wp2_with fail
              refine (take_empty hR).mono ?_; rintro e w' ⟨rfl, rfl⟩
              go_wp2_with fail
              refine (turn_empty hR).mono ?_; rintro e w' ⟨rfl, rfl⟩
              go_wp2_with fail
              refine (list_n 0 rfl hR).mono ?_; rintro e w2 ⟨A2, k2, rfl, -, -, g2⟩
              go_wp2_with fail
              go_ret
              exact ⟨rfl, grown_trans hg g2⟩
    · have hU : U = [] := List.length_eq_zero_iff.1 (by rw [hN.out]; omega)
      subst hU
      obtain rfl : 0 = N := hN.out
      have hsn : ∀ A9, SlA wu wu.heap.size wu.heap.size .i64 A9 [] := fun A9 => ⟨Nat.le_refl _, .inl rfl⟩
      replace hsn := Lib.hid hsn
      have hBw0 := hsz
      rcases hF with ⟨rfl, -⟩ | ⟨g, rfl, -, -⟩
      all_goals
        go_wp2_with fail
        refine (filled_ok _ _ [] 0 1 1 rfl rfl (by decide) (by decide) List.nodup_nil (fun x hx => by simp at hx) _ rfl _ _ _ (hsn.out _)).mono ?_; rintro e wf ⟨B, M, f, c, rfl, hR, hM, hB, gf⟩
        have hgf := grown_trans hgU gf
        clear hsU
        go_wp2_with fail
        go_loopw [8] (fun i wr => i = .int .i64 0 ∧ Rg wr B M 1 [] f c ∧ w.grownBy wr none) (fun i _ => 0)
        case atStart => exact ⟨rfl, hR, hgf⟩
        case round =>
          obtain ⟨rfl, hR, hg⟩ := hrel
          go_wp2_with fail
          go_loopw [9, 10, 11, 12] (fun i _ _ _ wr => i = .int .i64 0 ∧ Rg wr B M 1 [] f c ∧ w.grownBy wr none) (fun i _ _ _ _ => 0)
          case atStart => exact ⟨rfl, hR, hg⟩
          case round =>
            obtain ⟨rfl, hR, hg⟩ := hrel
            go_wp2_with fail
            refine (take_empty hR).mono ?_; rintro e w' ⟨rfl, rfl⟩
            go_wp2_with fail
            refine (turn_empty hR).mono ?_; rintro e w' ⟨rfl, rfl⟩
            go_wp2_with fail
            refine (list_n 0 rfl hR).mono ?_; rintro e w2 ⟨A2, k2, rfl, -, -, g2⟩
            go_wp2_with fail
            go_ret
            exact ⟨rfl, grown_trans hg g2⟩
end Go.Proofs.Ytmjcanamfijdjaa
