/- RingsKeep. -/
import Derived.Test.YtmjcanamfijdjaaRngA
import Derived.Maps.AppendAt
import Derived.Deep.RegionLaw
namespace Go.Proofs.Ytmjcanamfijdjaa
open Go.RowKit Go.Shelf Tk
set_option linter.unusedVariables false
set_option linter.unusedSimpArgs false

/-- Turned k times. -/
def rot (U : List Int) (k : Nat) : List Int := U.drop (k % U.length) ++ U.take (k % U.length)
theorem rot_zero (U : List Int) : rot U 0 = U := by simp [rot]
theorem rot_succ {U : List Int} (h : 0 < U.length) (k : Nat) : ∃ v ms, rot U k = v :: ms ∧ rot U (k + 1) = ms ++ [v] := by
  have hlt := Nat.mod_lt k h
  refine ⟨gd U (k % U.length), U.drop (k % U.length + 1) ++ U.take (k % U.length), ?_, ?_⟩
  · unfold rot
    rw [gd_lt hlt, List.drop_eq_getElem_cons hlt]; rfl
  · unfold rot
    rw [List.append_assoc, take_snoc hlt]
    by_cases e : k % U.length + 1 = U.length
    · have e2 : (k + 1) % U.length = 0 := by
        rw [Nat.add_mod]
        by_cases h1 : U.length = 1
        · rw [h1]; omega
        · rw [Nat.mod_eq_of_lt (show 1 < U.length by omega), e, Nat.mod_self]
      rw [e2, e]; simp
    · have e2 : (k + 1) % U.length = k % U.length + 1 := by
        rw [Nat.add_mod, Nat.mod_eq_of_lt (show 1 < U.length by omega), Nat.mod_eq_of_lt (by omega)]
      rw [e2]
theorem rot_perm (U : List Int) (k : Nat) : (rot U k).Perm U := by
  unfold rot
  exact (List.perm_append_comm).trans (by rw [List.take_append_drop])
theorem SlA_take {w : World} {lo hi : Nat} {k : IntKind} {A : Option Addr} {xs : List Int} (h : SlA w lo hi k A xs) (m : Nat) : SlA w lo hi k A (xs.take m) := by
  refine ⟨h.1, ?_⟩
  rcases h.2 with rfl | ⟨b, o, hA, h1, h2, hc⟩
  · left; simp
  · right; exact ⟨b, o, hA, h1, h2, fun i hi => by
      have := hc i (by simp at hi; omega)
      rw [this]; simp⟩
theorem SlA_drop {w : World} {lo hi : Nat} {k : IntKind} {b o : Nat} {xs : List Int} (h : SlA w lo hi k (some ⟨b, o, none⟩) xs) (m : Nat) : SlA w lo hi k (some ⟨b, o + m, none⟩) (xs.drop m) := by
  refine ⟨h.1, ?_⟩
  rcases h.2 with rfl | ⟨b', o', hA, h1, h2, hc⟩
  · left; simp
  · cases hA
    right; exact ⟨b, o + m, rfl, h1, h2, fun i hi => by
      have := hc (m + i) (by simp at hi; omega)
      rw [show o + m + i = o + (m + i) by omega, this]; simp⟩
theorem SlA_src {w : World} {lo hi : Nat} {k : IntKind} {ad : Addr} {xs : List Int} (h : SlA w lo hi k (some ad) xs) : ∀ j u, (xs.map (Value.int k))[j]? = some u → w.cell? (ad.add j) = some u := by
  intro j u hu
  have hj : j < xs.length := by
    by_cases hj : j < xs.length
    · exact hj
    · rw [List.getElem?_eq_none (by simpa using hj)] at hu; cases hu
  rcases h.2 with h' | ⟨b, o, hA, -⟩
  · rw [h'] at hj; simp at hj
  · cases hA
    have e0 : ((⟨b, o, none⟩ : Addr).add j) = ⟨b, o + j, none⟩ := by
      unfold Addr.add; by_cases hi0 : j = 0 <;> simp [hi0]
    rw [e0, h.cell hj, gd_lt hj]
    rw [List.getElem?_map, List.getElem?_eq_getElem hj] at hu
    exact hu
theorem ints_one (xs : List Int) : ∀ u ∈ xs.map (Value.int .i64), u.oneCell' = true := by
  intro u hu
  rw [List.mem_map] at hu
  obtain ⟨y, -, rfl⟩ := hu
  rfl
/-- append onto a slice of the call's own, as a step of a region that draws. -/
theorem step_append_own {P : Program} {ops : Array Oper} {o : Oper} {a : Go.Act} {w : World} {K : Go.Act → World → Prop} {Q : Exit → Go.Act → World → Prop} {E : Prop}
    (hg : o.guard = none) (s x : Operand) (t : TypeId) (hop : o.op = Op.call { callee := Callee.builtin Builtin.append, args := #[s, x], argTypes := #[t, t] })
    (base : Nat) (e : TypeId) (i : TypeInfo) (z : Value) (size bytes : Nat) (ht : P.underlying t = some (.slice e)) (hi : P.info? e = some i) (hz : i.zero = some z)
    (hsize : i.size = size) (hby : i.bytes = bytes) (hzs : z.cells.size = size) (hsz : 0 < size)
    (v : Value) (n : Nat) (xs : List Value) (hs : a.eval s = v) (hown : w.ownsRow base e size v n xs)
    (ad : Addr) (m c : Nat) (news : List Value) (hx : a.eval x = .slice (some ad) m c) (hl : news.length = m * size) (hnews : ∀ j u, news[j]? = some u → w.cell? (ad.add j) = some u) (h1 : ∀ u ∈ news, u.oneCell' = true)
    (h63 : n + m ≤ maxLen) (hbytes : (n + m) * bytes ≤ 140737488355328) (hbase : base ≤ w.heap.size)
    (hK : ∀ v' w', w'.ownsRow base e size v' (n + m) (xs ++ news) → w.grownBy w' v.ownBlock → K (a.put o.dst v') w') :
    if Region.wanted o (yielded ops a.tmps) = true then Oper.wp P o a w K Q else E := by
  have hw : Region.wanted o (yielded ops a.tmps) = true := by simp [Region.wanted, hg]
  rw [if_pos hw]
  obtain ⟨v', w', hr, h2, h3, -, -⟩ := run_append_own_at (P := P) (w := w) base t o.type e i z size bytes ht hi hz hsize hby hzs hsz v n xs hown ad m c news hl hnews h1 h63 hbytes hbase
  unfold Oper.wp
  simp [execOp, hop, resolve, invoke, builtin, hs, hx, hr, Result.andThen]
  exact hK _ _ h2 h3
set_option maxRecDepth 100000 in
set_option maxHeartbeats 8000000 in
theorem ringsKeep_walk (A0 : Option Addr) (c0 : Nat) (xs : List Int) (hl0 : xs.length ≤ c0) (t : Int) (wt : (Lit.int .u8 t).wf = true) (h : Int) (wh : (Lit.int .u8 h).wf = true) (w : World)
    (hs0 : SlA w 0 w.heap.size .u8 A0 xs) (hf0 : ∀ x ∈ xs, (Lit.int .u8 x).wf = true) (hb0 : xs.length * 1 ≤ 140737488351232) :
    Calls Try.prog 8 #[.slice A0 xs.length c0, .int .u8 t, .int .u8 h] w fun e w' => e = .returned (.bool true) ∧ w.grownBy w' none := by
  have hfit : ∀ x ∈ xs, 0 ≤ x ∧ x < 256 := fun x hx => wf_u8 (hf0 x hx)
  replace hfit := Lib.hid hfit
  clear hf0
  by_cases hlen : 100 < xs.length ∨ xs.length = 0
  · have hd : decide ((100 : Int) < (xs.length : Int)) = true ∨ (decide ((100 : Int) < (xs.length : Int)) = false ∧ ((xs.length : Int) == 0) = true) := by
      simp only [decide_eq_true_eq, decide_eq_false_iff_not, beq_iff_eq]; omega
    clear hlen
    rcases hd with hd | ⟨hd, hd2⟩
    all_goals
      go_enter Try.func8, Try.ntmps8
      go_wp2_with fail
      refine (alive_any _).mono ?_; rintro e wd ⟨rfl, hg⟩
      go_wp2_with fail
      refine (alive_any _).mono ?_; rintro e we ⟨rfl, hg2⟩
      go_wp2_with fail
      go_ret
      exact ⟨rfl, grown_trans hg hg2⟩
  · have hx : xs.length ≤ 100 := by omega
    have hd : decide ((100 : Int) < (xs.length : Int)) = false := decide_eq_false (by omega)
    have hd2 : ((xs.length : Int) == 0) = false := by rw [beq_eq_false_iff_ne]; omega
    have hxne : Hid (xs ≠ []) := fun e => by rw [e] at hlen; simp at hlen
    clear hlen
    obtain ⟨t1, t2⟩ := wf_u8 wt
    clear wt
    obtain ⟨T, rfl⟩ := Int.eq_ofNat_of_zero_le t1
    obtain ⟨n, hn, hn20⟩ : ∃ n : Nat, ((T : Int) % 20) = n ∧ n < 20 := ⟨T % 20, by omega, Nat.mod_lt _ (by decide)⟩
    replace hn := Lib.hid hn
    clear t1
    obtain ⟨h1, h2⟩ := wf_u8 wh
    clear wh
    obtain ⟨H, rfl⟩ := Int.eq_ofNat_of_zero_le h1
    clear h1
    obtain ⟨i0, hi0, hz0, hz1, hz2⟩ := info_parts infoInt
    go_enter Try.func8, Try.ntmps8
    go_wp2_with fail
    refine (alive_any _).mono ?_; rintro e wd ⟨rfl, hg⟩
    go_wp2_with fail
    refine (unlike_any A0 c0 xs (by omega) _ _ _ (hs0.kept hg (by simp)) hfit.out).mono ?_; rintro e wu ⟨AU, kU, U, rfl, hkU, hMU, hnd, hsub, hUl, hne, gU⟩
    have hgU := grown_trans hg gU
    have hsU := hMU.sl
    obtain ⟨-, kk, -, -, hkU2, -⟩ := hMU.form
    have hU0 : 0 < U.length := List.length_pos_iff.2 (hne hxne.out)
    obtain ⟨N, hN⟩ : ∃ N, U.length = N := ⟨_, rfl⟩
    rw [hN] at hkU hUl hU0 ⊢
    replace hN := Lib.hid hN
    have hU0' : Hid (∀ x ∈ U, 0 ≤ x) := fun x hx => (hfit.out x (hsub x hx)).1
    have hU256 : Hid (∀ x ∈ U, x < 256) := fun x hx => (hfit.out x (hsub x hx)).2
    replace hnd := Lib.hid hnd
    have hNx : N ≤ 100 := by omega
    clear hsub hne hs0 hg gU hMU
    go_wp2_with fail
    refine (filled_ok AU kU U N 0 N hN.out rfl hU0 (by omega) hnd.out hU0'.out 0 rfl _ _ _ hsU).mono ?_; rintro e wf ⟨B, M, f, c, rfl, hR, hM, hB, gf⟩
    have hgf := grown_trans hgU gf
    have hsz := hgU.size
    have hBw : w.heap.size ≤ B := Nat.le_trans hsz hB
    have hMw : w.heap.size ≤ M := Nat.le_trans hsz hM
    have hsU1 := hsU.kept gf (by simp)
    rw [← rot_zero U] at hR
    clear hgU gf hsU
    go_wp2_with fail
    go_loopw [9] (fun i wr => ∃ (k f : Nat) (c : Nat → Int), k ≤ n ∧ i = .int .i64 k ∧ Rg wr B M N (rot U k) f c ∧ SlA wr wd.heap.size wu.heap.size .i64 AU U ∧ w.grownBy wr none) (fun i _ => n - (intOf i).toNat)
    case atStart => exact ⟨0, f, c, Nat.zero_le _, rfl, hR, hsU1, hgf⟩
    case round =>
      obtain ⟨k, f, c, hk, rfl, hR, hs, hg⟩ := hrel
      by_cases hlt : k < n
      · have hdk : decide ((k : Int) < (T : Int) % 20) = true := by rw [hn.out]; exact decide_eq_true (by omega)
        have hdk2 : (k : Int) < (T : Int) % 20 := by rw [hn.out]; omega
        obtain ⟨v, ms, e1, e2⟩ := rot_succ (U := U) (by rw [hN.out]; exact hU0) k
        rw [e1] at hR
        replace e2 := Lib.hid e2
        replace e1 := Lib.hid e1
        go_wp2_with fail
        refine (turn_ok hR).mono ?_; rintro e w1 ⟨rfl, ⟨f1, c1, hR1⟩, g1⟩
        have hg1 := fr_step hg g1 hBw hMw
        have hs1 := hs.fr g1 (by rintro b h1 h2 (rfl | rfl) <;> omega)
        go_wp2_with fail
        go_roundw
        case rel => exact ⟨k + 1, f1, c1, by omega, by go_num, by rw [e2.out]; exact hR1, hs1, hg1⟩
        case measure => simp [intOf] <;> omega
      · obtain rfl : n = k := by omega
        have hdk : decide ((n : Int) < (T : Int) % 20) = false := by rw [hn.out]; exact decide_eq_false (by omega)
        have hdk2 : ¬ (n : Int) < (T : Int) % 20 := by rw [hn.out]; omega
        have hp := rot_perm U n
        have hWl : Hid ((rot U n).length = N) := hp.length_eq.trans hN.out
        have hWn : Hid ((rot U n).Nodup) := hp.nodup_iff.2 hnd.out
        have hWm : Hid (∀ x ∈ rot U n, 0 ≤ x ∧ x < 256) := fun x hx => ⟨hU0'.out x (hp.mem_iff.1 hx), hU256.out x (hp.mem_iff.1 hx)⟩
        generalize rot U n = W at *
        have hW1000 : Hid ((1000 : Int) ∉ W) := fun hm => by have := (hWm.out _ hm).2; omega
        have hr10 : Hid (putRes W N 1000 = 10) := by show _ = _; unfold putRes; rw [if_neg (by decide), if_neg hW1000.out, if_pos hWl.out]
        have hr1 : Hid (putRes W N (-5) = 1) := by show _ = _; unfold putRes; rw [if_pos (by decide)]
        obtain ⟨z, hz, hzN, hz9⟩ : ∃ z : Nat, ((H : Int) % (N : Int)) = z ∧ z < N ∧ z = H % N := ⟨H % N, by simp, Nat.mod_lt _ hU0, rfl⟩
        have hN0 : (0 : Int) < (N : Int) := by omega
        have hNz : ¬ N = 0 := by omega
        have hb0 : (0 : Int) ≤ (H : Int) % (N : Int) := by omega
        have hb1 : (H : Int) % (N : Int) ≤ 100 := by omega
        replace hz := Lib.hid hz
        replace hz9 := Lib.hid hz9
        clear hs hp
        go_wp2_with fail
        refine (list_n N hWl.out hR).mono ?_; rintro e w1 ⟨A1, k1, rfl, hk1, hM1, g1⟩
        have hR1 := hR.keep g1
        have hg1 := grown_trans hg g1
        have hBs := hR.hdr.lt
        have hMs := hR.blk.lt
        have hs1 := hM1.sl
        obtain ⟨base, hbase⟩ : ∃ base, wr.heap.size = base := ⟨_, rfl⟩
        rw [hbase] at hs1 hBs hMs
        clear hM1 g1 hR hg hbase
        go_wp2_with fail
        refine (put_res 1000 10 (by decide) hr10.out hR1).mono ?_; rintro e w2 ⟨rfl, n2, rfl⟩
        go_wp2_with fail
        refine (push_res (-5) 1 (by decide) hr1.out (hR1.drewN n2)).mono ?_; rintro e w2 ⟨rfl, n3, rfl⟩
        go_wp2_with fail
        refine (remove_no 1000 hW1000.out (hR1.drewN (n2 + n3))).mono ?_; rintro e w2 ⟨rfl, n4, rfl⟩
        have hR2 := hR1.drewN (n2 + n3 + n4)
        have hg2 := grown_drewN hg1 (n2 + n3 + n4)
        have hs2 := hs1.drewN (n2 + n3 + n4)
        go_wp2_with fail
        refine (list_n N hWl.out hR2).mono ?_; rintro e w3 ⟨A3, k3, rfl, hk3, hM3, g3⟩
        have hR3 := hR2.keep g3
        have hg3 := grown_trans hg2 g3
        have hs3 := hs2.kept g3 (by simp)
        go_wp2_with fail
        refine (same_n _ _ _ _ _ _ _ _ N W hWl.out (by omega) hk3 hk1 _ hM3.sl hs3).mono ?_; rintro e w4 ⟨rfl, n4b, rfl⟩
        have hR4 := hR3.drewN n4b
        have hg4 := grown_drewN hg3 n4b
        have hs4 := hs3.drewN n4b
        obtain ⟨W4, hW4⟩ : ∃ W4, w3.drewN n4b = W4 := ⟨_, rfl⟩
        rw [hW4] at hR4 hg4 hs4 ⊢
        clear hW4 hR1 hR2 hR3 hg1 hg2 hg3 hs1 hs2 hs3 hM3 g3 hW1000 hr10 hr1 hdk hdk2
        obtain ⟨gg, oo, rfl, -⟩ := hs4.at (i := 0) (by rw [hWl.out]; exact hU0)
        have hcz := hs4.cell (i := z) (by rw [hWl.out]; exact hzN)
        have hmz := Lib.hid (gd_mem (xs := W) (i := z) (by rw [hWl.out]; exact hzN))
        have hcz9 : W4.cell? ⟨gg, oo + H % N, none⟩ = some (.int .i64 (gd W z)) := by rw [← hz9.out]; exact hcz
        have hq4 : H % N < N := by rw [← hz9.out]; exact hzN
        clear hcz
        go_wp2_with fail
        refine (remove_ok (gd W z) hmz.out hR4).mono ?_; rintro e w5 ⟨rfl, ⟨j, f5, c5, hj, hgj, -, hR5⟩, g5⟩
        have hjz : j = z := by
          have h9 : z < W.length := by rw [hWl.out]; exact hzN
          rw [gd_lt hj, gd_lt h9] at hgj
          exact (List.getElem_inj hWn.out).1 hgj
        subst hjz
        have hg5 := fr_step hg4 g5 hBw hMw
        have hs5 := hs4.fr g5 (by rintro b h1 h2 (rfl | rfl) <;> omega)
        clear hgj hR4 hg4 hs4 g5 hcz9 hq4
        rw [hz.out]
        have hzN1 : (j : Int) ≤ (N : Int) := by omega
        have hzI : (0 : Int) ≤ (j : Int) := Int.natCast_nonneg _
        have hzj1 : (j : Int) + 1 ≤ (N : Int) := by omega
        have hzK : (j : Int) ≤ (k1 : Int) := by omega
        have hzK1 : (j : Int) + 1 ≤ (k1 : Int) := by omega
        have hNk : (N : Int) ≤ (k1 : Int) := by omega
        have hj01 : (0 : Int) ≤ (j : Int) + 1 := by omega
        have hjj : (j : Int) ≤ (j : Int) + 1 := by omega
        have hjj2 : (j : Int) + 1 ≤ (j : Int) + 1 := Int.le_refl _
        have hwr : IntKind.i64.wrap ((j : Int) + 1) = (j : Int) + 1 := by rw [IntKind.wrap_i64]; omega
        have hst := SlA_take hs5 j
        have hsd := SlA_drop hs5 (j + 1)
        have hlt2 : Hid (((W.take j).map (Value.int .i64)).length = j * 1) := by show _ = _; rw [List.length_map, List.length_take, hWl.out]; omega
        have hld : Hid (((W.drop (j + 1)).map (Value.int .i64)).length = (N - (j + 1)) * 1) := by show _ = _; rw [List.length_map, List.length_drop, hWl.out]; omega
        have hn1 := Lib.hid (SlA_src hst)
        have hbw := hg5.size
        clear hb0 hb1 hlt hk
        have hcap : k1 = j + 1 ∨ ¬ k1 = j + 1 := by omega
        clear hfit hx hd hd2 hxne hn hU0' hU256 hnd hgf hsz hBw hMw hsU1 hWn hWm hmz hBs hMs hz hz9 hj hN hkU hkU2 hUl hM hB
        rcases hcap with hcap | hcap
        · have hne0 : (W.drop (j + 1)) = [] := List.drop_eq_nil_of_le (by rw [hWl.out]; omega)
          have hld0 : Hid (((([] : List Int)).map (Value.int .i64)).length = 0 * 1) := rfl
          replace hne0 := Lib.hid hne0
          obtain rfl : N = j + 1 := by omega
          subst hcap
          go_wp2_with fail
          go_region_held3 (fun _ => True) (trivial) (first
            | (refine step_append_own rfl _ _ 23 rfl w5.heap.size 3 i0 (.int .i64 0) 1 8 Try.underlying23 hi0 hz0 hz1 hz2 rfl (by decide) v1 (0 + j) ([] ++ (W.take j).map (Value.int .i64)) rfl hown1 ⟨gg, oo, none⟩ 0 0 ((([] : List Int)).map (Value.int .i64)) rfl hld0.out (by simp) (ints_one _) (by unfold maxLen; omega) (by omega) (Nat.le_trans (Nat.le_refl _) hgr1.size) ?_; intro v2 w2 hown2 hgrow2; have hgr2 : w1.grownBy w2 v1.ownBlock := ⟨hgrow2.os, hgrow2.tape, hgrow2.output, hgrow2.size, hgrow2.block⟩)
            | (refine step_append_own rfl _ _ 23 rfl w5.heap.size 3 i0 (.int .i64 0) 1 8 Try.underlying23 hi0 hz0 hz1 hz2 rfl (by decide) (.slice none 0 0) 0 [] rfl (World.ownsRow_nil _ _ _ _) ⟨gg, oo, none⟩ j (j + 1) ((W.take j).map (Value.int .i64)) rfl hlt2.out hn1.out (ints_one _) (by unfold maxLen; omega) (by omega) (Nat.le_refl _) ?_; intro v1 w1 hown1 hgrow1; have hgr1 : w5.grownBy w1 none := ⟨hgrow1.os, hgrow1.tape, hgrow1.output, hgrow1.size, hgrow1.block⟩))
          all_goals
            have hown2' : w2.ownsRow w5.heap.size 3 1 v2 (0 + j + 0) ([] ++ (W.take j).map (Value.int .i64) ++ (W.drop (j + 1)).map (Value.int .i64)) := by rw [hne0.out]; exact hown2
            have e1 : (W.take j).length = 0 + j := by rw [List.length_take, hWl.out]; omega
            have e2 : (W.take j ++ W.drop (j + 1)).length = 0 + j + 0 := by rw [List.length_append, List.length_drop, List.length_take, hWl.out]; omega
            have hM1 : Mine w1 w5.heap.size 3 .i64 v1 (W.take j) := by unfold Mine; rw [e1]; exact hown1
            have hM2 : Mine w2 w5.heap.size 3 .i64 v2 (W.take j ++ W.drop (j + 1)) := by unfold Mine; rw [e2, List.map_append]; exact hown2'
            have hrg : w5.grownBy w2 none := hM1.far hgr1 (Nat.le_refl _) hgr2
            rw [List.eraseIdx_eq_take_drop_succ] at hR5
            have hRl : Hid ((W.take j ++ W.drop (j + 1)).length = j) := by show _ = _; rw [e2]; omega
            obtain ⟨V, hV⟩ : ∃ V, W.take j ++ W.drop (j + 1) = V := ⟨_, rfl⟩
            rw [hV] at hM2 hR5 hRl
            replace hV := Lib.hid hV
            obtain ⟨A2, k2, rfl, hk2, -, -⟩ := hM2.form
            rw [hRl.out] at hM2 hk2 ⊢
            have hR6 := hR5.keep hrg
            have hg6 := grown_trans hg5 hrg
            have hs6 := hM2.sl
            clear hM1 hown1 hown2 hown2' hgrow1 hgrow2 hgr1 hgr2 hrg e1 e2 hM2 hR5 hg5 hsd hst hn1 hs5
            go_wp2_with fail
            refine (list_n j hRl.out hR6).mono ?_; rintro e w7 ⟨A3, k3, rfl, hk3, hM3, g3⟩
            have hs7 := hs6.kept g3 (by simp)
            have hg7 := grown_trans hg6 g3
            go_wp2_with fail
            refine (same_n _ _ _ _ _ _ _ _ j V hRl.out (by omega) hk3 hk2 _ hM3.sl hs7).mono ?_; rintro e w8 ⟨rfl, n8, rfl⟩
            go_wp2_with fail
            go_ret
            exact ⟨rfl, grown_drewN hg7 n8⟩
        · go_wp2_with fail
          go_region_held3 (fun _ => True) (trivial) (first
            | (refine step_append_own rfl _ _ 23 rfl w5.heap.size 3 i0 (.int .i64 0) 1 8 Try.underlying23 hi0 hz0 hz1 hz2 rfl (by decide) v1 (0 + j) ([] ++ (W.take j).map (Value.int .i64)) rfl hown1 ⟨gg, oo + (j + 1), none⟩ (N - (j + 1)) (k1 - (j + 1)) ((W.drop (j + 1)).map (Value.int .i64)) rfl hld.out (SlA_src (hsd.kept hgr1 (by simp))) (ints_one _) (by unfold maxLen; omega) (by omega) (Nat.le_trans (Nat.le_refl _) hgr1.size) ?_; intro v2 w2 hown2 hgrow2; have hgr2 : w1.grownBy w2 v1.ownBlock := ⟨hgrow2.os, hgrow2.tape, hgrow2.output, hgrow2.size, hgrow2.block⟩)
            | (refine step_append_own rfl _ _ 23 rfl w5.heap.size 3 i0 (.int .i64 0) 1 8 Try.underlying23 hi0 hz0 hz1 hz2 rfl (by decide) (.slice none 0 0) 0 [] rfl (World.ownsRow_nil _ _ _ _) ⟨gg, oo, none⟩ j k1 ((W.take j).map (Value.int .i64)) rfl hlt2.out hn1.out (ints_one _) (by unfold maxLen; omega) (by omega) (Nat.le_refl _) ?_; intro v1 w1 hown1 hgrow1; have hgr1 : w5.grownBy w1 none := ⟨hgrow1.os, hgrow1.tape, hgrow1.output, hgrow1.size, hgrow1.block⟩))
          all_goals
            have hown2' : w2.ownsRow w5.heap.size 3 1 v2 (0 + j + (N - (j + 1))) ([] ++ (W.take j).map (Value.int .i64) ++ (W.drop (j + 1)).map (Value.int .i64)) := hown2
            have e1 : (W.take j).length = 0 + j := by rw [List.length_take, hWl.out]; omega
            have e2 : (W.take j ++ W.drop (j + 1)).length = 0 + j + (N - (j + 1)) := by rw [List.length_append, List.length_drop, List.length_take, hWl.out]; omega
            have hM1 : Mine w1 w5.heap.size 3 .i64 v1 (W.take j) := by unfold Mine; rw [e1]; exact hown1
            have hM2 : Mine w2 w5.heap.size 3 .i64 v2 (W.take j ++ W.drop (j + 1)) := by unfold Mine; rw [e2, List.map_append]; exact hown2'
            have hrg : w5.grownBy w2 none := hM1.far hgr1 (Nat.le_refl _) hgr2
            rw [List.eraseIdx_eq_take_drop_succ] at hR5
            have hRl : Hid ((W.take j ++ W.drop (j + 1)).length = N - 1) := by show _ = _; rw [e2]; omega
            obtain ⟨V, hV⟩ : ∃ V, W.take j ++ W.drop (j + 1) = V := ⟨_, rfl⟩
            rw [hV] at hM2 hR5 hRl
            replace hV := Lib.hid hV
            obtain ⟨A2, k2, rfl, hk2, -, -⟩ := hM2.form
            rw [hRl.out] at hM2 hk2 ⊢
            have hR6 := hR5.keep hrg
            have hg6 := grown_trans hg5 hrg
            have hs6 := hM2.sl
            clear hM1 hown1 hown2 hown2' hgrow1 hgrow2 hgr1 hgr2 hrg e1 e2 hM2 hR5 hg5 hsd hst hn1 hs5
            go_wp2_with fail
            refine (list_n (N - 1) hRl.out hR6).mono ?_; rintro e w7 ⟨A3, k3, rfl, hk3, hM3, g3⟩
            have hs7 := hs6.kept g3 (by simp)
            have hg7 := grown_trans hg6 g3
            go_wp2_with fail
            refine (same_n _ _ _ _ _ _ _ _ (N - 1) V hRl.out (by omega) hk3 hk2 _ hM3.sl hs7).mono ?_; rintro e w8 ⟨rfl, n8, rfl⟩
            go_wp2_with fail
            go_ret
            exact ⟨rfl, grown_drewN hg7 n8⟩
end Go.Proofs.Ytmjcanamfijdjaa
