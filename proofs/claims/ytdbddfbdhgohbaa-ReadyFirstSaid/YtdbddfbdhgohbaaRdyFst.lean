/- ReadyFirst. -/
import Derived.Test.YtdbddfbdhgohbaaRdyA
import Derived.Test.YtdbddfbdhgohbaaRws
namespace Go.Proofs.Ytdbddfbdhgohbaa
open Go.RowKit Go.Shelf Tk Tk.Lad Tk.Rdy
set_option linter.unusedVariables false
set_option linter.unusedSimpArgs false
/-- Turned k times. -/
def rot (U : List Int) (k : Nat) : List Int := U.drop (k % U.length) ++ U.take (k % U.length)
theorem rot_zero (U : List Int) : rot U 0 = U := by simp [rot]
theorem rot_full (U : List Int) : rot U U.length = U := by simp [rot]
theorem rot_succ {U : List Int} (h : 0 < U.length) (k : Nat) : ∃ v ms, rot U k = v :: ms ∧ rot U (k + 1) = ms ++ [v] := by
  have hlt := Nat.mod_lt k h
  refine ⟨gd U (k % U.length), U.drop (k % U.length + 1) ++ U.take (k % U.length), ?_, ?_⟩
  · unfold rot
    rw [gd_lt hlt, List.drop_eq_getElem_cons hlt]; rfl
  · unfold rot
    rw [List.append_assoc, take_snoc hlt]
    by_cases e : k % U.length + 1 = U.length
    · have e2 : (k + 1) % U.length = 0 := by
        rw [Nat.add_mod]
        by_cases h1 : U.length = 1
        · rw [h1]; omega
        · rw [Nat.mod_eq_of_lt (show 1 < U.length by omega), e, Nat.mod_self]
      rw [e2, e]; simp
    · have e2 : (k + 1) % U.length = k % U.length + 1 := by
        rw [Nat.add_mod, Nat.mod_eq_of_lt (show 1 < U.length by omega), Nat.mod_eq_of_lt (by omega)]
      rw [e2]
theorem upd_self {α : Type} (f : Nat → α) (k : Nat) : upd f k (f k) = f := by
  funext i
  unfold upd
  split
  · subst i; rfl
  · rfl
theorem upd_upd {α : Type} (f : Nat → α) (k : Nat) (a b : α) : upd (upd f k a) k b = upd f k b := by
  funext i
  unfold upd
  split <;> rfl
/-- The ranks that are still to be looked at are those below k. -/
def pr (k : Nat) : Int := (k : Int) - 1
theorem pr_zero : pr 0 = -1 := rfl
theorem pr_succ (j : Nat) : pr (j + 1) = j := by unfold pr; omega
/-- Who is the first one of the ranks from k on. -/
def Fo (ls : Nat → List Int) (k : Nat) (f : Int) : Prop := (f = -1 ∧ ∀ s, k ≤ s → s < 32 → ls s = []) ∨ (0 ≤ f ∧ ∃ s ms, k ≤ s ∧ s < 32 ∧ ls s = f :: ms ∧ ∀ t, s < t → t < 32 → ls t = [])
theorem Fo.last {ls : Nat → List Int} {rk : Nat → Nat} {has : Nat} (ho : Ok ls rk has) {f : Int} (h : Fo ls 0 f) : (f = -1 ∧ has = 0) ∨ (0 ≤ f ∧ has ≠ 0 ∧ ∃ ms, ls has.log2 = f :: ms) := by
  rcases h with ⟨rfl, h⟩ | ⟨h0, s, ms, -, hs, hl, ht⟩
  · left
    refine ⟨rfl, Classical.byContradiction fun hne => ?_⟩
    have hlt := top_lt hne ho.lt
    exact (ho.bit _ hlt).1 (top_bit hne) (h _ (Nat.zero_le _) hlt)
  · right
    have hb : has.testBit s = true := (ho.bit s hs).2 (by rw [hl]; simp)
    have hne : has ≠ 0 := fun e => by subst e; simp at hb
    have hlt := top_lt hne ho.lt
    have h1 : ¬ s < has.log2 := fun h => (ho.bit _ hlt).1 (top_bit hne) (ht _ h hlt)
    have h2 : ¬ has.log2 < s := fun h => by rw [above_top h] at hb; cases hb
    have : has.log2 = s := by omega
    exact ⟨h0, hne, ms, by rw [this]; exact hl⟩
def sv (sn : Nat → Bool) (i : Nat) : Value := .bool (sn i)
def boolsZ : Array Value := ((List.range 256).map (sv (fun _ => false))).toArray
theorem boolsZ_size : boolsZ.size = 256 := by simp [boolsZ]
theorem zeroB (w : World) : (zeroValue 29).run Try.prog w = .ok (.agg boolsZ) w := by kernel_rfl
theorem Rq.lt {w : World} {Q : Nat} {Bs Ms : Nat → Nat} {ls : Nat → List Int} {rk : Nat → Nat} {has : Nat} (h : Rq w Q Bs Ms ls rk has) : ∀ k, OwnQ Q Bs Ms k → k < w.heap.size := by
  rintro k (rfl | ⟨r, hr, rfl | rfl⟩)
  · exact h.hdr.lt
  · obtain ⟨f, c, h⟩ := h.rg r hr; exact h.hdr.lt
  · obtain ⟨f, c, h⟩ := h.rg r hr; exact h.blk.lt
theorem Rq.far {w w' : World} {Q : Nat} {Bs Ms : Nat → Nat} {ls : Nat → List Int} {rk : Nat → Nat} {has : Nat} {T : Nat → Prop} (h : Rq w Q Bs Ms ls rk has) (g : Fr T w w') (hT : ∀ k, OwnQ Q Bs Ms k → ¬ T k) : Rq w' Q Bs Ms ls rk has :=
  ⟨h.hdr.fr g (hT _ (.inl rfl)), fun r hr => by obtain ⟨f, c, hR⟩ := h.rg r hr; exact ⟨f, c, hR.fr g (hT _ (.inr ⟨r, hr, .inl rfl⟩)) (hT _ (.inr ⟨r, hr, .inr rfl⟩))⟩, h.ap, h.ap2⟩
theorem meas_up (n q : Nat) (h : q < n) : n - (intOf (.int .i64 ((q : Int) + 1))).toNat < n - (intOf (.int .i64 (q : Int))).toNat := by simp [intOf]; omega
theorem meas_pr (r : Nat) : (intOf (.int .i64 ((r : Int) - 1)) + 1).toNat < (intOf (.int .i64 (r : Int)) + 1).toNat := by simp [intOf]
set_option maxRecDepth 100000 in
set_option maxHeartbeats 8000000 in
theorem readyFirst_walk (A0 : Option Addr) (c0 L : Nat) (R : Nat → Nat → Int) (hl0 : L ≤ c0) (w : World) (hs0 : RowsA w [.u8, .i64, .i64] A0 L R) (hf0 : ∀ i, i < L → ∀ q, q < 3 → (Lit.int ([IntKind.u8, .i64, .i64].getD q .u8) (R i q)).wf = true) (hb0 : L * 24 ≤ 140737488351232) :
    Calls Try.prog 3 #[.slice A0 L c0] w fun e w' => e = .returned (.bool true) ∧ w.grownBy w' none := by
  have hfit : Hid (∀ i, i < L → 0 ≤ R i 0 ∧ R i 0 < 256) := fun i hi => wf_u8 (hf0 i hi 0 (by decide))
  clear hf0 hb0
  by_cases hlen : 300 < L
  · have hd : decide ((300 : Int) < (L : Int)) = true := decide_eq_true (by omega)
    clear hlen
    go_enter Try.func3, Try.ntmps3
    go_wp2_with fail
    refine (lives_any _).mono ?_; rintro e we ⟨rfl, hg2⟩
    go_wp2_with fail
    go_ret
    exact ⟨rfl, hg2⟩
  · have hx : L ≤ 300 := by omega
    have hd : decide ((300 : Int) < (L : Int)) = false := decide_eq_false (by omega)
    have hK := Lib.hid (fun wr (h : w.grownBy wr none) => hs0.kept h)
    clear hlen hs0
    have hz := zeroB
    have hzs := boolsZ_size
    go_enter Try.func3, Try.ntmps3
    go_wp2_with fail
    refine (newq_ok _).mono ?_; rintro e w0 ⟨Q, Bs, Ms, rfl, h0, hB, g0⟩
    have hR0 : Rok w0 Q Bs Ms := ⟨_, _, _, Ok.start, h0⟩
    replace hB := Lib.hid hB
    clear h0
    go_wp2_with fail
    go_loopw [4] (fun i wr => ∃ k : Nat, k ≤ L ∧ i = .int .i64 k ∧ Rok wr Q Bs Ms ∧ w.grownBy wr none) (fun i _ => L - (intOf i).toNat)
    case atStart => exact ⟨0, Nat.zero_le _, rfl, hR0, g0⟩
    case round =>
      obtain ⟨k, hk, rfl, hR, hg⟩ := hrel
      clear hR0 g0
      by_cases hlt : k < L
      · obtain ⟨b, o, rfl, hb, hcs⟩ := (hK.out _ hg).at hlt
        have hc0 := hcs 0 (by decide)
        have hc1 := hcs 1 (by decide)
        have hc2 := hcs 2 (by decide)
        have hr := hfit.out k hlt
        generalize R k 0 = r at *
        generalize R k 1 = n at *
        generalize R k 2 = m at *
        clear hcs
        simp only [List.length_cons, List.length_nil, Nat.reduceAdd, Nat.add_zero, List.getD_cons_zero, List.getD_cons_succ] at hc0 hc1 hc2
        have hdo := Lib.hid (does_any hR r n m hr)
        clear hR hz hr
        go_wp2_with fail
        refine hdo.out.mono ?_; rintro e w3 ⟨z, rfl, hR3, g3⟩
        have hg3 := q_step hg g3 hB.out
        go_wp2_with fail
        go_roundw
        case rel => exact ⟨k + 1, by omega, by go_num, hR3, hg3⟩
        case measure => simp [intOf] <;> omega
      · obtain rfl : L = k := by omega
        obtain ⟨ls, rk, has, ho, hq⟩ := hR
        replace ho := Lib.hid ho
        have hA1 := Arr.new wr boolsZ 29 256 (sv (fun _ => false)) hzs (fun i hi => by simp [boolsZ, hi])
        have hgA := World.grownBy_alloc wr (.cells boolsZ 29) none
        have hq1 := hq.keep hgA
        have hg1 := grown_trans hg hgA
        obtain ⟨S, hS⟩ : ∃ S, wr.heap.size = S := ⟨_, rfl⟩
        have hSQ : Hid (∀ k, OwnQ Q Bs Ms k → k ≠ S) := by
          rintro k (rfl | ⟨r, hr, rfl | rfl⟩)
          · have := hq.hdr.lt; omega
          · obtain ⟨f, c, h⟩ := hq.rg r hr; have := h.hdr.lt; omega
          · obtain ⟨f, c, h⟩ := hq.rg r hr; have := h.blk.lt; omega
        have hSw : w.heap.size ≤ S := by have := hg.size; omega
        rw [hS] at hA1
        go_wp2_with fail
        clear hS hz hzs hgA hq hlt hK
        replace hg1 := Lib.hid hg1
        obtain ⟨W1, hW1⟩ : ∃ W1, wr.alloc (.cells boolsZ 29) = W1 := ⟨_, rfl⟩
        rw [hW1] at hA1 hq1 hg1 ⊢
        clear hW1 hg
        go_loopw [5, 7] (fun f i wr2 => ∃ (k : Nat) (x : Int) (sn : Nat → Bool), k ≤ 32 ∧ i = .int .i64 (pr k) ∧ f = .int .i64 x ∧ Hid (Fo ls k x) ∧ Hid (∀ u, u < 256 → sn u = true → k < rk u) ∧ Rq wr2 Q Bs Ms ls rk has ∧ Arr wr2 S 256 (sv sn) ∧ w.grownBy wr2 none) (fun _ i _ => (intOf i + 1).toNat)
        case atStart => exact ⟨32, -1, fun _ => false, Nat.le_refl _, rfl, rfl, .inl ⟨rfl, fun s h1 h2 => by omega⟩, fun u _ h => Bool.noConfusion h, hq1, hA1, hg1.out⟩
        case round =>
          obtain ⟨k, x, sn, hk2, rfl, rfl, hfo, hsn, hq2, hA2, hg2⟩ := hrel
          clear hq1 hA1 hg1
          cases k with
          | zero =>
            rw [pr_zero]
            rcases hfo.out.last ho.out with ⟨rfl, rfl⟩ | ⟨hx0, hne, ms, hl⟩
            · go_wp2_with fail
              refine (firstq_no hq2).mono ?_; rintro e w5 ⟨rfl, g5⟩
              have g5' := grown_trans hg2 g5
              go_wp2_with fail
              refine (lives_any _).mono ?_; rintro e w6 ⟨rfl, g6⟩
              go_wp2_with fail
              go_ret
              exact ⟨rfl, grown_trans g5' g6⟩
            · have hlt := ho.out.lt
              have d1 : decide ((0 : Int) ≤ x) = true := decide_eq_true hx0
              replace hl := Lib.hid hl
              replace hne := Lib.hid hne
              go_wp2_with fail
              refine (firstq_in hq2 hlt hne.out hl.out).mono ?_; rintro e w5 ⟨rfl, g5⟩
              have g5' := grown_trans hg2 g5
              go_wp2_with fail
              refine (lives_any _).mono ?_; rintro e w6 ⟨rfl, g6⟩
              go_wp2_with fail
              go_ret
              exact ⟨rfl, grown_trans g5' g6⟩
          | succ r =>
            have hr : r < 32 := by omega
            have r0 : (0 : Int) ≤ (r : Int) := Int.natCast_nonneg _
            rw [pr_succ]
            obtain ⟨n, hn⟩ : ∃ n, (ls r).length = n := ⟨_, rfl⟩
            have hn256 : n ≤ 256 := by rw [← hn]; exact ho.out.len hr
            replace hn := Lib.hid hn
            go_wp2_with fail
            refine (listq_in hq2 hr n hn.out).mono ?_; rintro e w5 ⟨A, c, rfl, hc, hM, g5⟩
            have hq5 := hq2.keep g5
            have hA5 := hA2.kept g5 (by simp)
            have hg5 := grown_trans hg2 g5
            have hs5 := hM.sl
            obtain ⟨lo, hlo⟩ : ∃ lo, wr.heap.size = lo := ⟨_, rfl⟩
            obtain ⟨hi, hhi⟩ : ∃ hi, w5.heap.size = hi := ⟨_, rfl⟩
            have hlq : Hid (∀ k, OwnQ Q Bs Ms k → k < lo) := by rw [← hlo]; exact hq2.lt
            have hSlo : S < lo := by rw [← hlo]; exact hA2.lt
            rw [hlo, hhi] at hs5
            clear hlo hhi hM g5 hq2 hA2 hg2
            have hnx : ∃ x', ((decide (x < 0) = true ∧ 0 < n ∧ x' = gd (ls r) 0) ∨ (decide (x < 0) = true ∧ n = 0 ∧ x' = x) ∨ (decide (x < 0) = false ∧ x' = x)) ∧ Fo ls r x' := by
              rcases hfo.out with ⟨rfl, h⟩ | ⟨h0, s, ms, h1, h2, h3, h4⟩
              · cases hl : ls r with
                | nil =>
                  have hn0 : n = 0 := by rw [← hn.out, hl]; rfl
                  exact ⟨-1, .inr (.inl ⟨by decide, hn0, rfl⟩), .inl ⟨rfl, fun s h1 h2 => by
                    by_cases e : s = r
                    · subst e; exact hl
                    · exact h s (by omega) h2⟩⟩
                | cons v ms =>
                  have hn0 : 0 < n := by rw [← hn.out, hl]; simp
                  obtain ⟨u, hu, -⟩ := ho.out.mem r hr v (by rw [hl]; simp)
                  exact ⟨v, .inl ⟨by decide, hn0, rfl⟩, .inr ⟨by omega, r, ms, Nat.le_refl _, hr, hl, fun t h1 h2 => h t (by omega) h2⟩⟩
              · exact ⟨x, .inr (.inr ⟨decide_eq_false (by omega), rfl⟩), .inr ⟨h0, s, ms, by omega, h2, h3, h4⟩⟩
            obtain ⟨x', hcase, hfo'⟩ := hnx
            replace hfo' := Lib.hid hfo'
            rw [← upd_self ls r, ← rot_zero (ls r)] at hq5
            rcases hcase with ⟨d1, hn0, hx'⟩ | ⟨d1, hn0, hx'⟩ | ⟨d1, hx'⟩
            · obtain ⟨b5, o5, rfl, hc5⟩ := hs5.at (i := 0) (by rw [hn.out]; exact hn0)
              rw [← hx', Nat.add_zero] at hc5
              have hnI : (0 : Int) < (n : Int) := by omega
              have hnI2 : decide ((0 : Int) < (n : Int)) = true := decide_eq_true hnI
              replace hx' := Lib.hid hx'
              go_wp2_with fail
              go_loopw [9] (fun z wr3 => ∃ (q : Nat) (sn2 : Nat → Bool), q ≤ n ∧ z = .int .i64 q ∧ Rq wr3 Q Bs Ms (upd ls r (rot (ls r) q)) rk has ∧ Arr wr3 S 256 (sv sn2) ∧ Hid (∀ u, u < 256 → sn2 u = true → r + 1 < rk u ∨ ∃ j, j < q ∧ gd (ls r) j = u) ∧ w.grownBy wr3 none ∧ SlA wr3 lo hi .i64 (some ⟨b5, o5, none⟩) (ls r)) (fun z _ => n - (intOf z).toNat)
              case atStart => exact ⟨0, sn, Nat.zero_le _, rfl, hq5, hA5, fun u h1 h2 => .inl (hsn.out u h1 h2), hg5, hs5⟩
              case round =>
                obtain ⟨q, sn2, hqn, rfl, hq3, hA3, hsn2, hg3, hs3⟩ := hrel
                by_cases hlt : q < n
                · have hql : q < (ls r).length := by rw [hn.out]; exact hlt
                  have hU0 : 0 < (ls r).length := by omega
                  obtain ⟨u, hu, hu256, hur⟩ := ho.out.mem r hr _ (gd_mem hql)
                  have hc6 := hs3.cell hql
                  rw [hu] at hc6
                  have hsu : sn2 u = false := by
                    cases hb : sn2 u with
                    | false => rfl
                    | true =>
                      exfalso
                      rcases hsn2.out u hu256 hb with h | ⟨j, hj, hju⟩
                      · omega
                      · rw [← hu, gd_lt hql, gd_lt (by omega)] at hju
                        have := (List.getElem_inj (ho.out.nd r hr)).1 hju
                        omega
                  have hcs : wr.cell? ⟨S, u, none⟩ = some (.bool false) := by rw [hA3.cell (i := u) hu256]; unfold sv; rw [hsu]
                  obtain ⟨v, ms, e1, e2⟩ := rot_succ hU0 q
                  have hl1 : Hid (upd ls r (rot (ls r) q) r = v :: ms) := by show _ = _; rw [upd_same, e1]
                  have e2' : Hid (upd (upd ls r (rot (ls r) q)) r (ms ++ [v]) = upd ls r (rot (ls r) (q + 1))) := by show _ = _; rw [upd_upd, e2]
                  have u0 : (0 : Int) ≤ (u : Int) := Int.natCast_nonneg _
                  have uI : (u : Int) < 256 := by omega
                  have d5 : decide ((u : Int) < 0) = false := decide_eq_false (by omega)
                  have d6 : decide ((255 : Int) < (u : Int)) = false := decide_eq_false (by omega)
                  have qI : (q : Int) < (n : Int) := by omega
                  have q0 : (0 : Int) ≤ (q : Int) := Int.natCast_nonneg _
                  have hrr : ((r : Int) != (r : Int)) = false := by simp
                  replace hu := Lib.hid hu
                  replace hur := Lib.hid hur
                  clear e1 e2 hsu
                  go_wp2_with fail
                  refine (rank_ok hq3 hu256 hur.out hr).mono ?_; rintro e w' ⟨rfl, rfl⟩
                  go_wp2_with fail
                  refine (turnq_in hq3 hr hl1.out).mono ?_; rintro e w7 ⟨rfl, hq7, g7⟩
                  rw [e2'.out] at hq7
                  have hA7 := hA3.fr g7 (fun h => hSQ.out _ h rfl)
                  have hs7 := hs3.fr g7 (fun b h1 h2 hb => by have := hlq.out b hb; omega)
                  have hg7 := q_step hg3 g7 hB.out
                  have hc7 := hs7.cell (i := q) (by rw [hn.out]; exact hlt)
                  rw [hu.out] at hc7
                  have hct := hA7.cell (i := u) hu256
                  have hft := hA7.frozen u
                  have gS := grownBy_setCell w7 S u (.bool true)
                  have fS : Fr (fun k => k = S) w7 (w7.setCell ⟨S, u, none⟩ (.bool true)) := Fr.of_grown gS (fun k e _ => by cases e; rfl)
                  have hq8 := Lib.hid (hq7.far fS (fun k h => hSQ.out k h))
                  have hA8 : Hid (Arr (w7.setCell ⟨S, u, none⟩ (.bool true)) S 256 (sv (upd sn2 u true))) := (hA7.set hu256 (.bool true)).congr fun i hi => by
                    unfold sv upd
                    by_cases e : i = u
                    · rw [if_pos e, if_pos e]
                    · rw [if_neg e, if_neg e]
                  have hs8 := Lib.hid (hs7.fr fS (fun b h1 h2 hb => by omega))
                  have hg8 := Lib.hid (grown_step hg7 gS hSw)
                  have hsn8 : Hid (∀ y, y < 256 → upd sn2 u true y = true → r + 1 < rk y ∨ ∃ j, j < q + 1 ∧ gd (ls r) j = y) := fun y hy hb => by
                    by_cases e : y = u
                    · subst e; exact .inr ⟨q, by omega, hu.out⟩
                    · rw [upd_ne _ _ e] at hb
                      rcases hsn2.out y hy hb with h | ⟨j, hj, hju⟩
                      · exact .inl h
                      · exact .inr ⟨j, by omega, hju⟩
                  replace hct : w7.cell? ⟨S, u, none⟩ = some (.bool (sn2 u)) := hct
                  clear hq3 hA3 hs3 hc6 hcs hq7 gS fS g7 hg7
                  go_wp2_with fail
                  go_roundw
                  case rel => exact ⟨q + 1, upd sn2 u true, by omega, by go_num, hq8.out, hA8.out, hsn8, hg8.out, hs8.out⟩
                  case measure => exact meas_up n q hlt
                · obtain rfl : n = q := by omega
                  have hrf : Hid (upd ls r (rot (ls r) n) = ls) := by show _ = _; rw [← hn.out, rot_full, upd_self]
                  rw [hrf.out] at hq3
                  have hsn3 : Hid (∀ u, u < 256 → sn2 u = true → r < rk u) := fun u h1 h2 => by
                    rcases hsn2.out u h1 h2 with h | ⟨j, hj, hju⟩
                    · omega
                    · obtain ⟨u', hu', -, hk⟩ := ho.out.mem r hr (gd (ls r) j) (gd_mem (by rw [hn.out]; exact hj))
                      obtain rfl : u = u' := by omega
                      omega
                  go_wp2_with fail
                  refine (listq_in hq3 hr n hn.out).mono ?_; rintro e w9 ⟨A9, c9, rfl, hc9, hM9, g9⟩
                  have hs9 := hs3.kept g9 (by simp)
                  have hq9 := hq3.keep g9
                  have hA9 := hA3.kept g9 (by simp)
                  have hg9 := grown_trans hg3 g9
                  clear hq3 hA3 hs3 hg3 g9
                  go_wp2_with fail
                  refine (same_n _ _ _ _ _ _ _ _ n (ls r) hn.out (by omega) hc9 hc _ hM9.sl hs9).mono ?_; rintro e w' ⟨rfl, nd, rfl⟩
                  go_wp2_with fail
                  go_roundw
                  case rel => exact ⟨r, x', sn2, by omega, rfl, rfl, hfo'.out, hsn3.out, hq9.keep (grown_drewN (grown_refl _ _) nd), hA9.kept (row := none) (grown_drewN (grown_refl _ _) nd) (by simp), grown_drewN hg9 nd⟩
                  case measure => exact meas_pr r
            · subst hx'
              have hnI2 : decide ((0 : Int) < (n : Int)) = false := decide_eq_false (by omega)
              have hn00 : ¬ (0 : Int) < (n : Int) := by omega
              replace hn0 := Lib.hid hn0
              go_wp2_with fail
              go_loopw [9] (fun z wr3 => ∃ (q : Nat) (sn2 : Nat → Bool), q ≤ n ∧ z = .int .i64 q ∧ Rq wr3 Q Bs Ms (upd ls r (rot (ls r) q)) rk has ∧ Arr wr3 S 256 (sv sn2) ∧ Hid (∀ u, u < 256 → sn2 u = true → r + 1 < rk u ∨ ∃ j, j < q ∧ gd (ls r) j = u) ∧ w.grownBy wr3 none ∧ SlA wr3 lo hi .i64 A (ls r)) (fun z _ => n - (intOf z).toNat)
              case atStart => exact ⟨0, sn, Nat.zero_le _, rfl, hq5, hA5, fun u h1 h2 => .inl (hsn.out u h1 h2), hg5, hs5⟩
              case round =>
                obtain ⟨q, sn2, hqn, rfl, hq3, hA3, hsn2, hg3, hs3⟩ := hrel
                by_cases hlt : q < n
                · exfalso
                  have := hn0.out
                  omega
                · obtain rfl : n = q := by omega
                  have hrf : Hid (upd ls r (rot (ls r) n) = ls) := by show _ = _; rw [← hn.out, rot_full, upd_self]
                  rw [hrf.out] at hq3
                  have hsn3 : Hid (∀ u, u < 256 → sn2 u = true → r < rk u) := fun u h1 h2 => by
                    rcases hsn2.out u h1 h2 with h | ⟨j, hj, hju⟩
                    · omega
                    · obtain ⟨u', hu', -, hk⟩ := ho.out.mem r hr (gd (ls r) j) (gd_mem (by rw [hn.out]; exact hj))
                      obtain rfl : u = u' := by omega
                      omega
                  go_wp2_with fail
                  refine (listq_in hq3 hr n hn.out).mono ?_; rintro e w9 ⟨A9, c9, rfl, hc9, hM9, g9⟩
                  have hs9 := hs3.kept g9 (by simp)
                  have hq9 := hq3.keep g9
                  have hA9 := hA3.kept g9 (by simp)
                  have hg9 := grown_trans hg3 g9
                  clear hq3 hA3 hs3 hg3 g9
                  go_wp2_with fail
                  refine (same_n _ _ _ _ _ _ _ _ n (ls r) hn.out (by omega) hc9 hc _ hM9.sl hs9).mono ?_; rintro e w' ⟨rfl, nd, rfl⟩
                  go_wp2_with fail
                  go_roundw
                  case rel => exact ⟨r, x', sn2, by omega, rfl, rfl, hfo'.out, hsn3.out, hq9.keep (grown_drewN (grown_refl _ _) nd), hA9.kept (row := none) (grown_drewN (grown_refl _ _) nd) (by simp), grown_drewN hg9 nd⟩
                  case measure => exact meas_pr r
            · subst hx'
              go_wp2_with fail
              go_loopw [9] (fun z wr3 => ∃ (q : Nat) (sn2 : Nat → Bool), q ≤ n ∧ z = .int .i64 q ∧ Rq wr3 Q Bs Ms (upd ls r (rot (ls r) q)) rk has ∧ Arr wr3 S 256 (sv sn2) ∧ Hid (∀ u, u < 256 → sn2 u = true → r + 1 < rk u ∨ ∃ j, j < q ∧ gd (ls r) j = u) ∧ w.grownBy wr3 none ∧ SlA wr3 lo hi .i64 A (ls r)) (fun z _ => n - (intOf z).toNat)
              case atStart => exact ⟨0, sn, Nat.zero_le _, rfl, hq5, hA5, fun u h1 h2 => .inl (hsn.out u h1 h2), hg5, hs5⟩
              case round =>
                obtain ⟨q, sn2, hqn, rfl, hq3, hA3, hsn2, hg3, hs3⟩ := hrel
                by_cases hlt : q < n
                · have hql : q < (ls r).length := by rw [hn.out]; exact hlt
                  have hU0 : 0 < (ls r).length := by omega
                  obtain ⟨u, hu, hu256, hur⟩ := ho.out.mem r hr _ (gd_mem hql)
                  obtain ⟨b6, o6, rfl, hc6⟩ := hs3.at hql
                  rw [hu] at hc6
                  have hsu : sn2 u = false := by
                    cases hb : sn2 u with
                    | false => rfl
                    | true =>
                      exfalso
                      rcases hsn2.out u hu256 hb with h | ⟨j, hj, hju⟩
                      · omega
                      · rw [← hu, gd_lt hql, gd_lt (by omega)] at hju
                        have := (List.getElem_inj (ho.out.nd r hr)).1 hju
                        omega
                  have hcs : wr.cell? ⟨S, u, none⟩ = some (.bool false) := by rw [hA3.cell (i := u) hu256]; unfold sv; rw [hsu]
                  obtain ⟨v, ms, e1, e2⟩ := rot_succ hU0 q
                  have hl1 : Hid (upd ls r (rot (ls r) q) r = v :: ms) := by show _ = _; rw [upd_same, e1]
                  have e2' : Hid (upd (upd ls r (rot (ls r) q)) r (ms ++ [v]) = upd ls r (rot (ls r) (q + 1))) := by show _ = _; rw [upd_upd, e2]
                  have u0 : (0 : Int) ≤ (u : Int) := Int.natCast_nonneg _
                  have uI : (u : Int) < 256 := by omega
                  have d5 : decide ((u : Int) < 0) = false := decide_eq_false (by omega)
                  have d6 : decide ((255 : Int) < (u : Int)) = false := decide_eq_false (by omega)
                  have qI : (q : Int) < (n : Int) := by omega
                  have q0 : (0 : Int) ≤ (q : Int) := Int.natCast_nonneg _
                  have hrr : ((r : Int) != (r : Int)) = false := by simp
                  replace hu := Lib.hid hu
                  replace hur := Lib.hid hur
                  clear e1 e2 hsu
                  go_wp2_with fail
                  refine (rank_ok hq3 hu256 hur.out hr).mono ?_; rintro e w' ⟨rfl, rfl⟩
                  go_wp2_with fail
                  refine (turnq_in hq3 hr hl1.out).mono ?_; rintro e w7 ⟨rfl, hq7, g7⟩
                  rw [e2'.out] at hq7
                  have hA7 := hA3.fr g7 (fun h => hSQ.out _ h rfl)
                  have hs7 := hs3.fr g7 (fun b h1 h2 hb => by have := hlq.out b hb; omega)
                  have hg7 := q_step hg3 g7 hB.out
                  have hc7 := hs7.cell (i := q) (by rw [hn.out]; exact hlt)
                  rw [hu.out] at hc7
                  have hct := hA7.cell (i := u) hu256
                  have hft := hA7.frozen u
                  have gS := grownBy_setCell w7 S u (.bool true)
                  have fS : Fr (fun k => k = S) w7 (w7.setCell ⟨S, u, none⟩ (.bool true)) := Fr.of_grown gS (fun k e _ => by cases e; rfl)
                  have hq8 := Lib.hid (hq7.far fS (fun k h => hSQ.out k h))
                  have hA8 : Hid (Arr (w7.setCell ⟨S, u, none⟩ (.bool true)) S 256 (sv (upd sn2 u true))) := (hA7.set hu256 (.bool true)).congr fun i hi => by
                    unfold sv upd
                    by_cases e : i = u
                    · rw [if_pos e, if_pos e]
                    · rw [if_neg e, if_neg e]
                  have hs8 := Lib.hid (hs7.fr fS (fun b h1 h2 hb => by omega))
                  have hg8 := Lib.hid (grown_step hg7 gS hSw)
                  have hsn8 : Hid (∀ y, y < 256 → upd sn2 u true y = true → r + 1 < rk y ∨ ∃ j, j < q + 1 ∧ gd (ls r) j = y) := fun y hy hb => by
                    by_cases e : y = u
                    · subst e; exact .inr ⟨q, by omega, hu.out⟩
                    · rw [upd_ne _ _ e] at hb
                      rcases hsn2.out y hy hb with h | ⟨j, hj, hju⟩
                      · exact .inl h
                      · exact .inr ⟨j, by omega, hju⟩
                  replace hct : w7.cell? ⟨S, u, none⟩ = some (.bool (sn2 u)) := hct
                  clear hq3 hA3 hs3 hc6 hcs hq7 gS fS g7 hg7
                  go_wp2_with fail
                  go_roundw
                  case rel => exact ⟨q + 1, upd sn2 u true, by omega, by go_num, hq8.out, hA8.out, hsn8, hg8.out, hs8.out⟩
                  case measure => exact meas_up n q hlt
                · obtain rfl : n = q := by omega
                  have hrf : Hid (upd ls r (rot (ls r) n) = ls) := by show _ = _; rw [← hn.out, rot_full, upd_self]
                  rw [hrf.out] at hq3
                  have hsn3 : Hid (∀ u, u < 256 → sn2 u = true → r < rk u) := fun u h1 h2 => by
                    rcases hsn2.out u h1 h2 with h | ⟨j, hj, hju⟩
                    · omega
                    · obtain ⟨u', hu', -, hk⟩ := ho.out.mem r hr (gd (ls r) j) (gd_mem (by rw [hn.out]; exact hj))
                      obtain rfl : u = u' := by omega
                      omega
                  go_wp2_with fail
                  refine (listq_in hq3 hr n hn.out).mono ?_; rintro e w9 ⟨A9, c9, rfl, hc9, hM9, g9⟩
                  have hs9 := hs3.kept g9 (by simp)
                  have hq9 := hq3.keep g9
                  have hA9 := hA3.kept g9 (by simp)
                  have hg9 := grown_trans hg3 g9
                  clear hq3 hA3 hs3 hg3 g9
                  go_wp2_with fail
                  refine (same_n _ _ _ _ _ _ _ _ n (ls r) hn.out (by omega) hc9 hc _ hM9.sl hs9).mono ?_; rintro e w' ⟨rfl, nd, rfl⟩
                  go_wp2_with fail
                  go_roundw
                  case rel => exact ⟨r, x', sn2, by omega, rfl, rfl, hfo'.out, hsn3.out, hq9.keep (grown_drewN (grown_refl _ _) nd), hA9.kept (row := none) (grown_drewN (grown_refl _ _) nd) (by simp), grown_drewN hg9 nd⟩
                  case measure => exact meas_pr r
end Go.Proofs.Ytdbddfbdhgohbaa
