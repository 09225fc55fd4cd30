/- RingsRound. -/
import Derived.Test.YtmjcanamfijdjaaRngA
import Derived.Maps.AppendAt
import Derived.Deep.RegionLaw
namespace Go.Proofs.Ytmjcanamfijdjaa
open Go.RowKit Go.Shelf Tk
set_option linter.unusedVariables false
set_option linter.unusedSimpArgs false

/-- Turned k times. -/
def rot (U : List Int) (k : Nat) : List Int := U.drop (k % U.length) ++ U.take (k % U.length)
theorem rot_zero (U : List Int) : rot U 0 = U := by simp [rot]
theorem rot_succ {U : List Int} (h : 0 < U.length) (k : Nat) : ∃ v ms, rot U k = v :: ms ∧ rot U (k + 1) = ms ++ [v] := by
  have hlt := Nat.mod_lt k h
  refine ⟨gd U (k % U.length), U.drop (k % U.length + 1) ++ U.take (k % U.length), ?_, ?_⟩
  · unfold rot
    rw [gd_lt hlt, List.drop_eq_getElem_cons hlt]; rfl
  · unfold rot
    rw [List.append_assoc, take_snoc hlt]
    by_cases e : k % U.length + 1 = U.length
    · have e2 : (k + 1) % U.length = 0 := by
        rw [Nat.add_mod]
        by_cases h1 : U.length = 1
        · rw [h1]; omega
        · rw [Nat.mod_eq_of_lt (show 1 < U.length by omega), e, Nat.mod_self]
      rw [e2, e]; simp
    · have e2 : (k + 1) % U.length = k % U.length + 1 := by
        rw [Nat.add_mod, Nat.mod_eq_of_lt (show 1 < U.length by omega), Nat.mod_eq_of_lt (by omega)]
      rw [e2]
theorem SlA_take {w : World} {lo hi : Nat} {k : IntKind} {A : Option Addr} {xs : List Int} (h : SlA w lo hi k A xs) (m : Nat) : SlA w lo hi k A (xs.take m) := by
  refine ⟨h.1, ?_⟩
  rcases h.2 with rfl | ⟨b, o, hA, h1, h2, hc⟩
  · left; simp
  · right; exact ⟨b, o, hA, h1, h2, fun i hi => by
      have := hc i (by simp at hi; omega)
      rw [this]; simp⟩
theorem SlA_drop {w : World} {lo hi : Nat} {k : IntKind} {b o : Nat} {xs : List Int} (h : SlA w lo hi k (some ⟨b, o, none⟩) xs) (m : Nat) : SlA w lo hi k (some ⟨b, o + m, none⟩) (xs.drop m) := by
  refine ⟨h.1, ?_⟩
  rcases h.2 with rfl | ⟨b', o', hA, h1, h2, hc⟩
  · left; simp
  · cases hA
    right; exact ⟨b, o + m, rfl, h1, h2, fun i hi => by
      have := hc (m + i) (by simp at hi; omega)
      rw [show o + m + i = o + (m + i) by omega, this]; simp⟩
theorem SlA_src {w : World} {lo hi : Nat} {k : IntKind} {ad : Addr} {xs : List Int} (h : SlA w lo hi k (some ad) xs) : ∀ j u, (xs.map (Value.int k))[j]? = some u → w.cell? (ad.add j) = some u := by
  intro j u hu
  have hj : j < xs.length := by
    by_cases hj : j < xs.length
    · exact hj
    · rw [List.getElem?_eq_none (by simpa using hj)] at hu; cases hu
  rcases h.2 with h' | ⟨b, o, hA, -⟩
  · rw [h'] at hj; simp at hj
  · cases hA
    have e0 : ((⟨b, o, none⟩ : Addr).add j) = ⟨b, o + j, none⟩ := by
      unfold Addr.add; by_cases hi0 : j = 0 <;> simp [hi0]
    rw [e0, h.cell hj, gd_lt hj]
    rw [List.getElem?_map, List.getElem?_eq_getElem hj] at hu
    exact hu
theorem ints_one (xs : List Int) : ∀ u ∈ xs.map (Value.int .i64), u.oneCell' = true := by
  intro u hu
  rw [List.mem_map] at hu
  obtain ⟨y, -, rfl⟩ := hu
  rfl
/-- append onto a slice of the call's own, as a step of a region that draws. -/
theorem step_append_own {P : Program} {ops : Array Oper} {o : Oper} {a : Go.Act} {w : World} {K : Go.Act → World → Prop} {Q : Exit → Go.Act → World → Prop} {E : Prop}
    (hg : o.guard = none) (s x : Operand) (t : TypeId) (hop : o.op = Op.call { callee := Callee.builtin Builtin.append, args := #[s, x], argTypes := #[t, t] })
    (base : Nat) (e : TypeId) (i : TypeInfo) (z : Value) (size bytes : Nat) (ht : P.underlying t = some (.slice e)) (hi : P.info? e = some i) (hz : i.zero = some z)
    (hsize : i.size = size) (hby : i.bytes = bytes) (hzs : z.cells.size = size) (hsz : 0 < size)
    (v : Value) (n : Nat) (xs : List Value) (hs : a.eval s = v) (hown : w.ownsRow base e size v n xs)
    (ad : Addr) (m c : Nat) (news : List Value) (hx : a.eval x = .slice (some ad) m c) (hl : news.length = m * size) (hnews : ∀ j u, news[j]? = some u → w.cell? (ad.add j) = some u) (h1 : ∀ u ∈ news, u.oneCell' = true)
    (h63 : n + m ≤ maxLen) (hbytes : (n + m) * bytes ≤ 140737488355328) (hbase : base ≤ w.heap.size)
    (hK : ∀ v' w', w'.ownsRow base e size v' (n + m) (xs ++ news) → w.grownBy w' v.ownBlock → K (a.put o.dst v') w') :
    if Region.wanted o (yielded ops a.tmps) = true then Oper.wp P o a w K Q else E := by
  have hw : Region.wanted o (yielded ops a.tmps) = true := by simp [Region.wanted, hg]
  rw [if_pos hw]
  obtain ⟨v', w', hr, h2, h3, -, -⟩ := run_append_own_at (P := P) (w := w) base t o.type e i z size bytes ht hi hz hsize hby hzs hsz v n xs hown ad m c news hl hnews h1 h63 hbytes hbase
  unfold Oper.wp
  simp [execOp, hop, resolve, invoke, builtin, hs, hx, hr, Result.andThen]
  exact hK _ _ h2 h3
set_option maxRecDepth 100000 in
set_option maxHeartbeats 8000000 in
theorem ringsRound_walk (A0 : Option Addr) (c0 : Nat) (xs : List Int) (hl0 : xs.length ≤ c0) (t : Int) (wt : (Lit.int .u8 t).wf = true) (w : World)
    (hs0 : SlA w 0 w.heap.size .u8 A0 xs) (hf0 : ∀ x ∈ xs, (Lit.int .u8 x).wf = true) (hb0 : xs.length * 1 ≤ 140737488351232) :
    Calls Try.prog 5 #[.slice A0 xs.length c0, .int .u8 t] w fun e w' => e = .returned (.bool true) ∧ w.grownBy w' none := by
  have hfit : ∀ x ∈ xs, 0 ≤ x ∧ x < 256 := fun x hx => wf_u8 (hf0 x hx)
  replace hfit := Lib.hid hfit
  clear hf0
  by_cases hlen : 100 < xs.length ∨ xs.length = 0
  · have hd : decide ((100 : Int) < (xs.length : Int)) = true ∨ (decide ((100 : Int) < (xs.length : Int)) = false ∧ ((xs.length : Int) == 0) = true) := by
      simp only [decide_eq_true_eq, decide_eq_false_iff_not, beq_iff_eq]; omega
    clear hlen
    rcases hd with hd | ⟨hd, hd2⟩
    all_goals
      go_enter Try.func5, Try.ntmps5
      go_wp2_with fail
      refine (alive_any _).mono ?_; rintro e wd ⟨rfl, hg⟩
      go_wp2_with fail
      refine (alive_any _).mono ?_; rintro e we ⟨rfl, hg2⟩
      go_wp2_with fail
      go_ret
      exact ⟨rfl, grown_trans hg hg2⟩
  · have hx : xs.length ≤ 100 := by omega
    have hd : decide ((100 : Int) < (xs.length : Int)) = false := decide_eq_false (by omega)
    have hd2 : ((xs.length : Int) == 0) = false := by rw [beq_eq_false_iff_ne]; omega
    have hxne : Hid (xs ≠ []) := fun e => by rw [e] at hlen; simp at hlen
    clear hlen
    obtain ⟨t1, t2⟩ := wf_u8 wt
    clear wt
    obtain ⟨T, rfl⟩ := Int.eq_ofNat_of_zero_le t1
    obtain ⟨n, hn, hn60⟩ : ∃ n : Nat, ((T : Int) % 60) = n ∧ n < 60 := ⟨T % 60, by omega, Nat.mod_lt _ (by decide)⟩
    replace hn := Lib.hid hn
    clear t1
    obtain ⟨i0, hi0, hz0, hz1, hz2⟩ := info_parts infoInt
    go_enter Try.func5, Try.ntmps5
    go_wp2_with fail
    refine (alive_any _).mono ?_; rintro e wd ⟨rfl, hg⟩
    go_wp2_with fail
    refine (unlike_any A0 c0 xs (by omega) _ _ _ (hs0.kept hg (by simp)) hfit.out).mono ?_; rintro e wu ⟨AU, kU, U, rfl, hkU, hMU, hnd, hsub, hUl, hne, gU⟩
    have hgU := grown_trans hg gU
    have hsU := hMU.sl
    obtain ⟨-, kk, -, -, hkU2, -⟩ := hMU.form
    have hU0 : 0 < U.length := List.length_pos_iff.2 (hne hxne.out)
    obtain ⟨N, hN⟩ : ∃ N, U.length = N := ⟨_, rfl⟩
    rw [hN] at hkU hUl hU0 ⊢
    replace hN := Lib.hid hN
    have hU0' : Hid (∀ x ∈ U, 0 ≤ x) := fun x hx => (hfit.out x (hsub x hx)).1
    replace hnd := Lib.hid hnd
    have hNx : N ≤ 100 := by omega
    clear hsub hne hs0 hg gU hMU
    go_wp2_with fail
    refine (filled_ok AU kU U N 0 N hN.out rfl hU0 (by omega) hnd.out hU0'.out 0 rfl _ _ _ hsU).mono ?_; rintro e wf ⟨B, M, f, c, rfl, hR, hM, hB, gf⟩
    have hgf := grown_trans hgU gf
    have hsz := hgU.size
    have hBw : w.heap.size ≤ B := Nat.le_trans hsz hB
    have hMw : w.heap.size ≤ M := Nat.le_trans hsz hM
    have hsU1 := hsU.kept gf (by simp)
    rw [← rot_zero U] at hR
    clear hgU gf hsU
    go_wp2_with fail
    rw [hn.out]
    go_wp2_with fail
    go_loopw [8] (fun i wr => ∃ (k f : Nat) (c : Nat → Int), k ≤ n ∧ i = .int .i64 k ∧ Rg wr B M N (rot U k) f c ∧ SlA wr wd.heap.size wu.heap.size .i64 AU U ∧ w.grownBy wr none) (fun i _ => n - (intOf i).toNat)
    case atStart => exact ⟨0, f, c, Nat.zero_le _, rfl, hR, hsU1, hgf⟩
    case round =>
      obtain ⟨k, f, c, hk, rfl, hR, hs, hg⟩ := hrel
      by_cases hlt : k < n
      · obtain ⟨v, ms, e1, e2⟩ := rot_succ (U := U) (by rw [hN.out]; exact hU0) k
        rw [e1] at hR
        replace e2 := Lib.hid e2
        replace e1 := Lib.hid e1
        go_wp2_with fail
        refine (turn_ok hR).mono ?_; rintro e w1 ⟨rfl, ⟨f1, c1, hR1⟩, g1⟩
        have hg1 := fr_step hg g1 hBw hMw
        have hs1 := hs.fr g1 (by rintro b h1 h2 (rfl | rfl) <;> omega)
        go_wp2_with fail
        go_roundw
        case rel => exact ⟨k + 1, f1, c1, by omega, by go_num, by rw [e2.out]; exact hR1, hs1, hg1⟩
        case measure => simp [intOf] <;> omega
      · obtain rfl : n = k := by omega
        obtain ⟨z, hz, hzN, hz9⟩ : ∃ z : Nat, ((n : Int) % (N : Int)) = z ∧ z < N ∧ z = n % N := ⟨n % N, by simp, Nat.mod_lt _ hU0, rfl⟩
        obtain ⟨gg, oo, rfl, -⟩ := hs.at (i := 0) (by rw [hN.out]; exact hU0)
        have hN0 : (0 : Int) < (N : Int) := by omega
        have hNz : ¬ N = 0 := by omega
        have hb0 : (0 : Int) ≤ (n : Int) % (N : Int) := by omega
        have hb1 : (n : Int) % (N : Int) ≤ 100 := by omega
        replace hz := Lib.hid hz
        replace hz9 := Lib.hid hz9
        go_wp2_with fail
        rw [hz.out]
        have hzN1 : (z : Int) ≤ (N : Int) := by omega
        have hzI : (0 : Int) ≤ (z : Int) := Int.natCast_nonneg _
        have hzk : ¬ z = kU := by omega
        have hzk2 : ¬ kU = z := by omega
        have hzK : (z : Int) ≤ (kU : Int) := by omega
        have hNk : (N : Int) ≤ (kU : Int) := by omega
        have hsd := SlA_drop hs z
        have hst := SlA_take hs z
        have hld : Hid (((U.drop z).map (Value.int .i64)).length = (N - z) * 1) := by show _ = _; rw [List.length_map, List.length_drop, hN.out]; omega
        have hlt2 : Hid (((U.take z).map (Value.int .i64)).length = z * 1) := by show _ = _; rw [List.length_map, List.length_take, hN.out]; omega
        have hn1 := Lib.hid (SlA_src hsd)
        have hn2 := Lib.hid (SlA_src hst)
        have hbw := hg.size
        clear hb0 hb1
        go_wp2_with fail
        go_region_law (first
          | (refine step_append_own rfl _ _ 23 rfl wr.heap.size 3 i0 (.int .i64 0) 1 8 Try.underlying23 hi0 hz0 hz1 hz2 rfl (by decide) v1 (0 + (N - z)) ([] ++ (U.drop z).map (Value.int .i64)) rfl hown1 ⟨gg, oo, none⟩ z kU ((U.take z).map (Value.int .i64)) rfl hlt2.out (SlA_src (hst.kept hgr1 (by simp))) (ints_one _) (by unfold maxLen; omega) (by omega) (Nat.le_trans (Nat.le_refl _) hgr1.size) ?_; intro v2 w2 hown2 hgrow2; have hgr2 : w1.grownBy w2 v1.ownBlock := ⟨hgrow2.os, hgrow2.tape, hgrow2.output, hgrow2.size, hgrow2.block⟩)
          | (refine step_append_own rfl _ _ 23 rfl wr.heap.size 3 i0 (.int .i64 0) 1 8 Try.underlying23 hi0 hz0 hz1 hz2 rfl (by decide) (.slice none 0 0) 0 [] rfl (World.ownsRow_nil _ _ _ _) ⟨gg, oo + z, none⟩ (N - z) (kU - z) ((U.drop z).map (Value.int .i64)) rfl hld.out hn1.out (ints_one _) (by unfold maxLen; omega) (by omega) (Nat.le_refl _) ?_; intro v1 w1 hown1 hgrow1; have hgr1 : wr.grownBy w1 none := ⟨hgrow1.os, hgrow1.tape, hgrow1.output, hgrow1.size, hgrow1.block⟩))
        all_goals
          have e1 : (U.drop z).length = 0 + (N - z) := by rw [List.length_drop, hN.out]; omega
          have e2 : (U.drop z ++ U.take z).length = 0 + (N - z) + z := by rw [List.length_append, List.length_drop, List.length_take, hN.out]; omega
          have hM1 : Mine w1 wr.heap.size 3 .i64 v1 (U.drop z) := by unfold Mine; rw [e1]; exact hown1
          have hM2 : Mine w2 wr.heap.size 3 .i64 v2 (U.drop z ++ U.take z) := by unfold Mine; rw [e2, List.map_append]; exact hown2
          have hrg : wr.grownBy w2 none := hM1.far hgr1 (Nat.le_refl _) hgr2
          have hro : rot U n = U.drop z ++ U.take z := by unfold rot; rw [hN.out, ← hz9.out]
          have hRl : Hid ((rot U n).length = N) := by show _ = _; rw [hro, e2]; omega
          rw [← hro] at hM2
          replace hro := Lib.hid hro
          obtain ⟨A2, k2, rfl, hk2, -, -⟩ := hM2.form
          rw [hRl.out] at hM2 hk2 ⊢
          have hR2 := hR.keep hrg
          have hg2 := grown_trans hg hrg
          have hs2 := hM2.sl
          clear hM1 hown1 hown2 hgrow1 hgrow2 hgr1 hgr2 hrg e1 e2 hM2 hR hg hsd hst hn1 hn2 hs
          go_wp2_with fail
          refine (list_n N hRl.out hR2).mono ?_; rintro e w3 ⟨A3, k3, rfl, hk3, hM3, g3⟩
          have hs3 := hs2.kept g3 (by simp)
          have hg3 := grown_trans hg2 g3
          go_wp2_with fail
          refine (same_n _ _ _ _ _ _ _ _ N (rot U n) hRl.out (by omega) hk3 hk2 _ hM3.sl hs3).mono ?_; rintro e w4 ⟨rfl, n4, rfl⟩
          go_wp2_with fail
          go_ret
          exact ⟨rfl, grown_drewN hg3 n4⟩
end Go.Proofs.Ytmjcanamfijdjaa
