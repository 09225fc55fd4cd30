/- Package heirs: Ranks. -/
import Derived.Test.YtigghlnnhdoabaaDoorRows
import Derived.Test.YtigghlnnhdoabaaDoorHeiM
import Derived.Test.YtigghlnnhdoabaaDoorTwinI
namespace Go.Proofs.YtigghlnnhdoabaaDoor
open Go.RowKit Go.Shelf Tk Tk.Hei
set_option linter.unusedVariables false
set_option linter.unusedSimpArgs false

theorem infoInt : (Tryd.prog.info? 3).map (fun i => (i.zero, i.size, i.bytes)) = some (some (.int .i64 0), 1, 8) := by kernel_rfl
theorem SlA_src {w : World} {lo hi : Nat} {k : IntKind} {ad : Addr} {xs : List Int} (h : SlA w lo hi k (some ad) xs) : ∀ j u, (xs.map (Value.int k))[j]? = some u → w.cell? (ad.add j) = some u := by
  intro j u hu
  have hj : j < xs.length := by
    by_cases hj : j < xs.length
    · exact hj
    · rw [List.getElem?_eq_none (by simpa using hj)] at hu; cases hu
  rcases h.2 with h' | ⟨b, o, hA, -⟩
  · rw [h'] at hj; simp at hj
  · cases hA
    have e0 : ((⟨b, o, none⟩ : Addr).add j) = ⟨b, o + j, none⟩ := by
      unfold Addr.add; by_cases hi0 : j = 0 <;> simp [hi0]
    rw [e0, h.cell hj, gd_lt hj]
    rw [List.getElem?_map, List.getElem?_eq_getElem hj] at hu
    exact hu
theorem nilTest (w : World) (a : Option Addr) (n c n' c' : Nat) : (binOp .eql 22 (.slice a n c) (.slice none n' c')).run Tryd.prog w = .ok (.bool a.isNone) w := Lib.run_eql_slice_nil w _ _ a n c n' c' Tryd.underlying22
set_option maxRecDepth 100000 in
set_option maxHeartbeats 1000000 in
theorem clone_some (ad : Addr) (c lo hi : Nat) (xs : List Int) (hl : xs.length ≤ 1000) (w : World) (hs : SlA w lo hi .i64 (some ad) xs) :
    Calls Tryd.prog 14 #[.slice (some ad) xs.length c] w fun x w' => ∃ g c, x = .returned (.slice (some ⟨g, 0, none⟩) xs.length c) ∧ xs.length ≤ c ∧ c ≤ maxLen ∧ Mine w' w.heap.size 3 .i64 (.slice (some ⟨g, 0, none⟩) xs.length c) xs ∧ w.grownBy w' none := by
  obtain ⟨i0, hi, hz0, hz1, hz2⟩ := info_parts infoInt
  have hnews : Hid (∀ j u, (xs.map (Value.int .i64))[j]? = some u → (w.alloc (.cells #[] 3)).cell? (ad.add j) = some u) := SlA_src (hs.alloc _)
  have hown : (w.alloc (.cells #[] 3)).ownsRow w.heap.size 3 1 (.slice (some ⟨w.heap.size, 0, none⟩) 0 0) 0 [] :=
    ⟨rfl, .inr ⟨w.heap.size, 0, #[], rfl, Nat.le_refl _, heap_alloc_new w _, Nat.le_refl _, by simp, rfl, rfl⟩⟩
  have hgA := World.grownBy_alloc w (.cells #[] 3) none
  have hnt := nilTest
  go_enter Tryd.func14, Tryd.ntmps14
  go_wp2_with (at_builtin; refine wpList_append_own_at _ rfl _ _ 22 rfl w.heap.size 3 i0 (.int .i64 0) 1 8 Tryd.underlying22 hi hz0 hz1 hz2 rfl (by decide) (.slice (some ⟨w.heap.size, 0, none⟩) 0 0) 0 [] rfl hown ad xs.length c (xs.map (Value.int .i64)) rfl (by simp) hnews.out (by simp [Value.oneCell']) (by unfold maxLen; omega) (by omega) (by simp) ?_; intro v' w1 hown' hgrow hnil _)
  have hM : Mine w1 w.heap.size 3 .i64 v' xs := by
    unfold Mine; simpa using hown'
  obtain ⟨A, c, rfl, h1, h2, h3⟩ := hM.form
  have hA : ∃ g, A = some ⟨g, 0, none⟩ := by
    rcases h3 with ⟨rfl, hx⟩ | ⟨g, rfl, -⟩
    · exfalso
      rcases hM.2 with ⟨e, h0⟩ | ⟨g, _, _, e, -⟩
      · have := hnil.1 e; cases this.1
      · cases e
    · exact ⟨g, rfl⟩
  obtain ⟨g, rfl⟩ := hA
  go_ret
  exact ⟨g, c, rfl, h1, h2, hM, grown_step hgA hgrow (Nat.le_refl _)⟩
theorem clone_nil (n c : Nat) (w : World) : Calls Tryd.prog 14 #[.slice none n c] w fun x w' => x = .returned (.slice none 0 0) ∧ w = w' := by
  have hnt := nilTest
  go_enter Tryd.func14, Tryd.ntmps14
  go_wp2
  go_ret
  exact ⟨rfl, rfl⟩
set_option maxRecDepth 100000 in
theorem clip_some (b o n k : Nat) (hk : n ≤ k) (hm : k ≤ maxLen) (w : World) : Calls Tryd.prog 13 #[.slice (some ⟨b, o, none⟩) n k] w fun e w' => e = .returned (.slice (some ⟨b, o, none⟩) n n) ∧ w = w' := by
  have i1 : (n : Int) ≤ (k : Int) := by omega
  have i0 : (0 : Int) ≤ (n : Int) := Int.natCast_nonneg _
  go_enter Tryd.func13, Tryd.ntmps13
  go_wp2_with fail
  first
    | (go_quiet (fail); go_wp2_with fail)
    | skip
  go_ret
  exact ⟨rfl, rfl⟩
theorem clip_nil (w : World) : Calls Tryd.prog 13 #[.slice none 0 0] w fun e w' => e = .returned (.slice none 0 0) ∧ w = w' := by
  go_enter Tryd.func13, Tryd.ntmps13
  go_wp2
  go_ret
  exact ⟨rfl, rfl⟩
/-- The call's own list, behind a clip. -/
def Cut (w : World) (base : Nat) (A : Option Addr) (xs : List Int) : Prop := A = none ∧ xs = [] ∨ ∃ g c, A = some ⟨g, 0, none⟩ ∧ xs.length ≤ c ∧ c ≤ maxLen ∧ Mine w base 3 .i64 (.slice (some ⟨g, 0, none⟩) xs.length c) xs
theorem Cut.keep {w w' : World} {base : Nat} {A : Option Addr} {xs : List Int} (h : Cut w base A xs) (hg : w.grownBy w' none) : Cut w' base A xs := by
  refine h.imp id ?_
  rintro ⟨g, c, e, h1, h2, hM⟩
  exact ⟨g, c, e, h1, h2, hM.keep hg⟩
theorem Cut.sl {w : World} {base : Nat} {A : Option Addr} {xs : List Int} (h : Cut w base A xs) : SlA w 0 w.heap.size .i64 A xs := by
  rcases h with ⟨-, rfl⟩ | ⟨g, c, rfl, -, -, hM⟩
  · exact ⟨Nat.le_refl _, .inl rfl⟩
  · exact hM.sl.wide (Nat.zero_le _) (Nat.le_refl _) (Nat.le_refl _)
theorem clone_ok (A0 : Option Addr) (c0 lo hi : Nat) (xs : List Int) (hl : xs.length ≤ 1000) (w : World) (hs : SlA w lo hi .i64 A0 xs) :
    Calls Tryd.prog 14 #[.slice A0 xs.length c0] w fun x w' => ∃ A c, x = .returned (.slice A xs.length c) ∧ (A = none → xs.length = 0 ∧ c = 0) ∧ xs.length ≤ c ∧ c ≤ maxLen ∧ (∀ b o s, A = some ⟨b, o, s⟩ → o = 0 ∧ s = none) ∧ Cut w' w.heap.size A xs ∧ w.grownBy w' none := by
  cases A0 with
  | none =>
    have hx : xs = [] := by
      rcases hs.2 with h | ⟨b, o, h, -⟩
      · exact h
      · cases h
    subst hx
    refine (clone_nil _ _ w).mono ?_
    rintro x w' ⟨rfl, rfl⟩
    exact ⟨none, 0, rfl, fun _ => ⟨rfl, rfl⟩, Nat.le_refl _, by simp, fun b o s h => (by cases h), .inl ⟨rfl, rfl⟩, grown_refl _ _⟩
  | some ad =>
    refine (clone_some ad c0 lo hi xs hl w hs).mono ?_
    rintro x w' ⟨g, c, rfl, h1, h2, hM, hg⟩
    exact ⟨some ⟨g, 0, none⟩, c, rfl, fun h => (by cases h), h1, h2, fun b o s h => (by cases h; exact ⟨rfl, rfl⟩), .inr ⟨g, c, rfl, h1, h2, hM⟩, hg⟩
theorem clip_ok (A : Option Addr) (n c : Nat) (h0 : A = none → n = 0 ∧ c = 0) (h1 : n ≤ c) (h2 : c ≤ maxLen) (h3 : ∀ b o s, A = some ⟨b, o, s⟩ → o = 0 ∧ s = none) (w : World) :
    Calls Tryd.prog 13 #[.slice A n c] w fun e w' => e = .returned (.slice A n n) ∧ w = w' := by
  cases A with
  | none => obtain ⟨rfl, rfl⟩ := h0 rfl; exact clip_nil w
  | some ad =>
    obtain ⟨b, o, s⟩ := ad
    obtain ⟨rfl, rfl⟩ := h3 b o s rfl
    exact clip_some b 0 n c h1 h2 w
/-- What Ranks answers. -/
def RanksPost (w : World) (bs ws : List Int) (e : Ending) (w' : World) : Prop :=
  (¬ Okr bs ws ∧ e = .returned (.tuple #[.slice none 0 0, .int .i64 1]) ∧ w.grownBy w' none) ∨
  (Okr bs ws ∧ ∃ out A, e = .returned (.tuple #[.slice A out.length out.length, .int .i64 0]) ∧ Least bs ws out ∧
    Cut w' w.heap.size A out ∧ w.grownBy w' none)
set_option maxRecDepth 100000 in
set_option maxHeartbeats 4000000 in
theorem ranks_any (A0 A1 : Option Addr) (c0 c1 lo hi lo' hi' : Nat) (bs ws : List Int) (w : World) (hs0 : SlA w lo hi .i64 A0 bs) (hs1 : SlA w lo' hi' .i64 A1 ws) :
    Calls Tryd.prog 6 #[.slice A0 bs.length c0, .slice A1 ws.length c1] w (RanksPost w bs ws) := by
  by_cases hlen : ws.length = bs.length ∧ bs.length ≤ 256
  · obtain ⟨hl, hl2⟩ := hlen
    rw [hl]
    obtain ⟨n, hn⟩ : ∃ n, bs.length = n := ⟨_, rfl⟩
    have hwn : ws.length = n := hl.trans hn
    have hK0 := Lib.hid (fun wr (h : w.grownBy wr none) => hs0.kept h (by simp))
    have hK1 := Lib.hid (fun wr (h : w.grownBy wr none) => hs1.kept h (by simp))
    have hclone := Lib.hid (clone_ok A0 c0 lo hi bs (by omega) w hs0)
    rw [hn] at hl2 hclone ⊢
    replace hn := Lib.hid hn
    replace hwn := Lib.hid hwn
    clear hl hs0 hs1
    go_enter Tryd.func6, Tryd.ntmps6
    go_wp2_with fail
    go_step3
    go_wp2_with fail
    go_loopw [24] (fun i wr => ∃ k : Nat, k ≤ n ∧ i = .int .i64 k ∧ Hid (∀ j, j < k → (0 ≤ gd bs j ∧ gd bs j ≤ 31) ∧ -1 ≤ gd ws j ∧ gd ws j < n ∧ gd ws j ≠ j) ∧ wr = w) (fun i _ => n - (intOf i).toNat)
    case atStart => exact ⟨0, Nat.zero_le _, rfl, fun j hj => absurd hj (Nat.not_lt_zero _), rfl⟩
    case round =>
      obtain ⟨k, hk, rfl, hno, hww⟩ := hrel
      obtain rfl : w = wr := hww.symm
      by_cases hlt : k < n
      · obtain ⟨b, o, rfl, hc⟩ := (hK0.out _ (grown_refl _ _)).at (i := k) (by rw [hn.out]; exact hlt)
        obtain ⟨b', o', rfl, hc'⟩ := (hK1.out _ (grown_refl _ _)).at (i := k) (by rw [hwn.out]; exact hlt)
        have hkI : (k : Int) < (n : Int) := by omega
        by_cases hgood : (0 ≤ gd bs k ∧ gd bs k ≤ 31) ∧ -1 ≤ gd ws k ∧ gd ws k < n ∧ gd ws k ≠ k
        · have hno' : Hid (∀ j, j < k + 1 → (0 ≤ gd bs j ∧ gd bs j ≤ 31) ∧ -1 ≤ gd ws j ∧ gd ws j < n ∧ gd ws j ≠ j) := fun j hj => by
            by_cases e : j = k
            · subst e; exact hgood
            · exact hno.out j (by omega)
          obtain ⟨⟨q1, q2⟩, q3, q4, q5⟩ := hgood
          generalize gd bs k = x at *
          generalize gd ws k = y at *
          have p1 : decide (x < 0) = false := decide_eq_false (by omega)
          have p2 : decide (31 < x) = false := decide_eq_false (by omega)
          have p3 : decide (y < -1) = false := decide_eq_false (by omega)
          have p4 : decide ((n : Int) ≤ y) = false := decide_eq_false (by omega)
          have p5 : (y == (k : Int)) = false := by rw [beq_eq_false_iff_ne]; exact q5
          clear q1 q2 q3 q4 q5 hno
          go_wp2_with fail
          go_roundw
          case rel => exact ⟨k + 1, by omega, by go_num, hno', by first | rfl | trivial⟩
          case measure => simp [intOf]; omega
        · have hbad : Hid (¬ Okr bs ws) := fun h => hgood ⟨h.base k (by rw [hn.out]; exact hlt), by have := h.to k (by rw [hn.out]; exact hlt); rw [hn.out] at this; exact this⟩
          generalize gd bs k = x at *
          generalize gd ws k = y at *
          have hcs : decide (x < 0) = true ∨ (decide (x < 0) = false ∧ decide (31 < x) = true) ∨ (decide (x < 0) = false ∧ decide (31 < x) = false ∧ decide (y < -1) = true) ∨
              (decide (x < 0) = false ∧ decide (31 < x) = false ∧ decide (y < -1) = false ∧ decide ((n : Int) ≤ y) = true) ∨ (decide (x < 0) = false ∧ decide (31 < x) = false ∧ decide (y < -1) = false ∧ decide ((n : Int) ≤ y) = false ∧ (y == (k : Int)) = true) := by
            simp only [decide_eq_true_eq, decide_eq_false_iff_not, beq_iff_eq]; omega
          clear hgood hno
          rcases hcs with p1 | ⟨p1, p2⟩ | ⟨p1, p2, p3⟩ | ⟨p1, p2, p3, p4⟩ | ⟨p1, p2, p3, p4, p5⟩
          all_goals
            go_wp2_with fail
            try rw [Exit.noGoto_ret]
            go_ret2
            exact .inl ⟨hbad.out, rfl, grown_refl _ _⟩
      · obtain rfl : n = k := by omega
        have hok : Okr bs ws := ⟨by rw [hn.out, hwn.out], by rw [hn.out]; exact hl2, fun i hi => (hno.out i (by rw [← hn.out]; exact hi)).1, fun i hi => by
          rw [hn.out]; exact (hno.out i (by rw [← hn.out]; exact hi)).2⟩
        replace hok := Lib.hid hok
        clear hno
        go_wp2_with fail
        refine (Hid.out hclone).mono ?_; rintro e w1 ⟨A, c, rfl, ha0, ha1, ha2, ha3, hC, hg1⟩
        go_wp2_with fail
        refine (clip_ok A n c ha0 ha1 ha2 ha3 _).mono ?_; rintro e w' ⟨rfl, rfl⟩
        clear ha0 ha1 ha2 ha3
        go_wp2_with fail
        go_step3
        go_wp2_with fail
        go_loopg [60] (room bs) (fun gg _ wr1 => ∃ out, gg = room out ∧ Hid (Mid bs ws out) ∧ Cut wr1 w.heap.size A out ∧ w.grownBy wr1 none)
        case atStart => exact ⟨bs, rfl, Mid.start bs ws, hC, hg1⟩
        case round =>
          obtain ⟨out, rfl, hM, hC, hg⟩ := hrel
          have hol : out.length = n := hM.out.len.trans hn.out
          go_wp2_with fail
          go_loopg [60] n (fun gi i wr2 => ∃ k : Nat, k + gi = n ∧ i = .int .i64 k ∧ Hid (∀ j, j < k → 0 ≤ gd ws j → gd out j ≤ gd out (gd ws j).toNat) ∧ Drawn wr wr2)
          case atStart => exact ⟨0, by omega, rfl, fun j hj => absurd hj (Nat.not_lt_zero _), Drawn.refl _⟩
          case round =>
            obtain ⟨k, hk2, rfl, hcl, nd, rfl⟩ := hrel
            clear hlt
            by_cases hlt : k < n
            · have hkI : (k : Int) < (n : Int) := by omega
              obtain ⟨b', o', rfl, hc'⟩ := (hK1.out _ hg).at (i := k) (by rw [hwn.out]; exact hlt)
              obtain ⟨-, hto⟩ : True ∧ (-1 ≤ gd ws k ∧ gd ws k < n ∧ gd ws k ≠ k) := ⟨trivial, by have := hok.out.to k (by rw [hn.out]; exact hlt); rw [hn.out] at this; exact this⟩
              by_cases hneg : gd ws k < 0
              · have hd : decide ((0 : Int) ≤ gd ws k) = false := decide_eq_false (by omega)
                have hcl' : Hid (∀ j, j < k + 1 → 0 ≤ gd ws j → gd out j ≤ gd out (gd ws j).toNat) := fun j hj hp => by
                  by_cases e : j = k
                  · subst e; omega
                  · exact hcl.out j (by omega) hp
                generalize gd ws k = y at *
                clear hneg hto hcl
                go_wp2_with fail
                go_quiet (fail)
                go_wp2_with fail
                go_roundg (n - (k + 1))
                case rel => exact ⟨k + 1, by omega, by go_num, hcl', _, rfl⟩
                case measure => omega
              · obtain ⟨t, ht⟩ := Int.eq_ofNat_of_zero_le (by omega : 0 ≤ gd ws k)
                have htn : t < n := by omega
                rcases hC with ⟨-, h0⟩ | ⟨g, c, rfl, hc1, hc2, hMi⟩
                · rw [h0] at hol; simp at hol; omega
                · have hca := hMi.cell (i := k) (by rw [hol]; exact hlt)
                  have hcb := hMi.cell (i := t) (by rw [hol]; exact htn)
                  have hfb := hMi.frozen t
                  have htI : (t : Int) < (n : Int) := by omega
                  have ht0 : (0 : Int) ≤ (t : Int) := Int.natCast_nonneg _
                  have hk0 : (0 : Int) ≤ (k : Int) := Int.natCast_nonneg _
                  by_cases hr : gd out t < gd out k
                  · have hM2 : Hid (Mid bs ws (out.set t (gd out k))) := hM.out.raise (by rw [hwn.out, hn.out]) (by rw [hn.out]; exact hlt) ht (by rw [hn.out]; exact htn) hr
                    have hrm : Hid (room (out.set t (gd out k)) < room out) := room_set out t _ (by rw [hol]; exact htn) hr (by have := (hM.out.fit hok.out k (by rw [hn.out]; exact hlt)).2; omega)
                    have hMs := Lib.hid (fun m => (hMi.drewN m).set t (gd out k))
                    have hd2 : decide (gd out t < gd out k) = true := decide_eq_true hr
                    rw [ht] at hc' hto
                    generalize hx : gd out k = x at *
                    generalize gd out t = z at *
                    go_wp2_with fail
                    go_quiet (fail)
                    go_wp2_with fail
                    go_roundg (room (out.set t x))
                    case rel =>
                      refine ⟨out.set t x, rfl, hM2.out, .inr ⟨g, c, rfl, by rw [List.length_set]; exact hc1, hc2, ?_⟩, grown_step (grown_drewN hg _) (grownBy_setCell _ _ _ _) hMi.lt.1⟩
                      have := hMs.out (nd + nq)
                      rw [List.length_set]
                      exact this
                    case measure => exact hrm.out
                  · have hd2 : decide (gd out t < gd out k) = false := decide_eq_false hr
                    have hcl' : Hid (∀ j, j < k + 1 → 0 ≤ gd ws j → gd out j ≤ gd out (gd ws j).toNat) := fun j hj hp => by
                      by_cases e : j = k
                      · subst e; rw [ht, Int.toNat_natCast]; omega
                      · exact hcl.out j (by omega) hp
                    have hCa : Cut wr w.heap.size (some ⟨g, 0, none⟩) out := .inr ⟨g, c, rfl, hc1, hc2, hMi⟩
                    rw [ht] at hc' hto
                    generalize hx : gd out k = x at *
                    generalize gd out t = z at *
                    clear hcl
                    go_wp2_with fail
                    go_quiet (fail)
                    go_wp2_with fail
                    go_roundg (n - (k + 1))
                    case rel => exact ⟨k + 1, by omega, by go_num, hcl', _, rfl⟩
                    case measure => omega
            · obtain rfl : n = k := by omega
              have hcd : Hid (Closed ws (gd out)) := fun i hi hp => hcl.out i (by rw [← hwn.out]; exact hi) hp
              have hC' := Lib.hid (hC.keep (grown_drewN (grown_refl wr none) nd))
              have hg' := Lib.hid (grown_drewN hg nd)
              clear hcl hC hg
              go_wp2_with fail
              try rw [Exit.noGoto_ret]
              go_ret2
              refine .inr ⟨hok.out, out, A, ?_, ⟨hM.out, hcd.out⟩, hC'.out, hg'.out⟩
              rw [hol]; rfl
  · have hbad : Hid (¬ Okr bs ws) := fun h => hlen ⟨h.len, h.few⟩
    have hd : ((bs.length : Int) != (ws.length : Int)) = true ∨ (((bs.length : Int) != (ws.length : Int)) = false ∧ decide ((256 : Int) < (bs.length : Int)) = true) := by
      simp only [bne_iff_ne, ne_eq, bne_eq_false_iff_eq, decide_eq_true_eq]; omega
    clear hlen hs0 hs1
    rcases hd with hd | ⟨hd, hd2⟩
    all_goals
      go_enter Tryd.func6, Tryd.ntmps6
      go_wp2_with fail
      first
        | (go_step3; go_wp2_with fail)
        | skip
      try rw [Exit.noGoto_ret]
      go_ret2
      exact .inl ⟨hbad.out, rfl, grown_refl _ _⟩
end Go.Proofs.YtigghlnnhdoabaaDoor
