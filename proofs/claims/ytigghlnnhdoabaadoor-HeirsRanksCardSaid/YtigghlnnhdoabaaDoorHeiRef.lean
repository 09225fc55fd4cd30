/- timekeeperref17.Ranks: the least ranks, or none. -/
import Derived.Test.YtigghlnnhdoabaaDoorHeiA
namespace Go.Proofs.YtigghlnnhdoabaaDoor
open Go.RowKit Go.Shelf Tk Tk.Hei
set_option linter.unusedVariables false
set_option linter.unusedSimpArgs false
theorem ints_one' (xs : List Int) : ∀ u ∈ xs.map (Value.int .i64), u.oneCell' = true := by
  intro u hu
  rw [List.mem_map] at hu
  obtain ⟨y, -, rfl⟩ := hu
  rfl
theorem append_nil_none {P : Program} {w : World} (base : Nat) (t ty e : TypeId) (i : TypeInfo) (ht : P.underlying t = some (.slice e)) (hi : P.info? e = some i) (m c : Nat) (hm : m = 0) :
    (Builtin.append_ #[t, t] ty #[.slice none 0 0, .slice none m c]).run P w = .ok (.slice none 0 0) w := by
  subst hm
  simp [Builtin.append_, run_underlying ht, sizeOf, typeInfo, hi, Builtin.lenOf, Builtin.firstCells]
/-- A whole list behind nil: a copy in new memory. -/
theorem wpList_copy {P : Program} {w : World} {ops : Array Oper} {rest : List Oper} {o : Oper} {a : Act} {Q : Exit → Act → World → Prop} (hgd : o.guard = none) (s x : Operand) (t : TypeId)
    (ho : o.op = .call { callee := .builtin .append, args := #[s, x], argTypes := #[t, t] }) (e : TypeId) (i : TypeInfo) (ht : P.underlying t = some (.slice e)) (hi : P.info? e = some i) (hz : i.zero = some (.int .i64 0)) (hz1 : i.size = 1) (hz2 : i.bytes = 8)
    (A : Option Addr) (n c lo h' : Nat) (xs : List Int) (hs : a.eval s = .slice none 0 0) (hx : a.eval x = .slice A n c) (hsl : SlA w lo h' .i64 A xs) (hn : xs.length = n) (hm : n ≤ 1000)
    (hK : ∀ v w', Mine w' w.heap.size e .i64 v xs → w.grownBy w' none → wpList P ops Q rest (a.put o.dst v) w') : wpList P ops Q (o :: rest) a w := by
  cases A with
  | none =>
    have hx0 : xs = [] := by
      rcases hsl.2 with h | ⟨b, o, h, -⟩
      · exact h
      · cases h
    subst hx0
    refine wpList_plain hgd fun K hK' => ?_
    have hrun := append_nil_none (P := P) (w := w) 0 t o.type e i ht hi n c hn.symm
    unfold Oper.wp
    simp [execOp, ho, resolve, invoke, builtin, hs, hx, hrun, Result.andThen]
    exact hK' _ _ (hK _ _ (Mine.nil _ _ _ _) (grown_refl _ _))
  | some ad =>
    refine wpList_append_own w hgd s x t ho w.heap.size e i (.int .i64 0) 1 8 ht hi hz hz1 hz2 rfl (by decide) (.slice none 0 0) 0 [] hs (World.ownsRow_nil _ _ _ _) ad n c (xs.map (Value.int .i64)) hx (by simp [hn]) (SlA_src hsl) (ints_one' _) (by unfold maxLen; omega) (by omega) (Nat.le_refl _) ?_
    intro v' w2 hown hgrow _
    refine hK v' w2 ?_ hgrow
    have h := hown
    rw [Nat.zero_add, List.nil_append] at h
    unfold Mine; rw [hn]; exact h
/-- What the reference's Ranks answers. -/
def RefPost (w : World) (bs ws : List Int) (e : Ending) (w' : World) : Prop :=
  (¬ Okr bs ws ∧ e = .returned (.tuple #[.slice none 0 0, .int .i64 1]) ∧ w.grownBy w' none) ∨
  (Okr bs ws ∧ ∃ out v, e = .returned (.tuple #[v, .int .i64 0]) ∧ Least bs ws out ∧ Mine w' w.heap.size 3 .i64 v out ∧ w.grownBy w' none)
/-- A bool of which something is known. -/
def BoolP (v : Value) (P : Bool → Prop) : Prop := ∃ q, v = .bool q ∧ P q
theorem BoolP.of {P : Bool → Prop} (q : Bool) (h : P q) : BoolP (.bool q) P := ⟨q, rfl, h⟩
set_option maxRecDepth 100000 in
set_option maxHeartbeats 4000000 in
theorem refRanks_any (A0 A1 : Option Addr) (c0 c1 lo hi lo' hi' : Nat) (bs ws : List Int) (w : World) (hs0 : SlA w lo hi .i64 A0 bs) (hs1 : SlA w lo' hi' .i64 A1 ws) :
    Calls Tryd.prog 7 #[.slice A0 bs.length c0, .slice A1 ws.length c1] w (RefPost w bs ws) := by
  obtain ⟨i0, hi0, hz0, hz1, hz2⟩ := info_parts infoInt
  by_cases hlen : ws.length = bs.length ∧ bs.length ≤ 256
  · obtain ⟨hl, hl2⟩ := hlen
    rw [hl]
    obtain ⟨n, hn⟩ : ∃ n, bs.length = n := ⟨_, rfl⟩
    have hwn : ws.length = n := hl.trans hn
    have hK0 := Lib.hid (fun wr (h : w.grownBy wr none) => hs0.kept h (by simp))
    have hK1 := Lib.hid (fun wr (h : w.grownBy wr none) => hs1.kept h (by simp))
    rw [hn] at hl2 ⊢
    replace hn := Lib.hid hn
    replace hwn := Lib.hid hwn
    clear hl hs0 hs1
    go_enter Tryd.func7, Tryd.ntmps7
    go_wp2_with fail
    go_loopw [6] (fun i wr => ∃ k : Nat, k ≤ n ∧ i = .int .i64 k ∧ Hid (∀ j, j < k → (0 ≤ gd bs j ∧ gd bs j ≤ 31) ∧ -1 ≤ gd ws j ∧ gd ws j < n ∧ gd ws j ≠ j) ∧ wr = w) (fun i _ => n - (intOf i).toNat)
    case atStart => exact ⟨0, Nat.zero_le _, rfl, fun j hj => absurd hj (Nat.not_lt_zero _), rfl⟩
    case round =>
      obtain ⟨k, hk, rfl, hno, hww⟩ := hrel
      obtain rfl : w = wr := hww.symm
      by_cases hlt : k < n
      · obtain ⟨b, o, rfl, hc⟩ := (hK0.out _ (grown_refl _ _)).at (i := k) (by rw [hn.out]; exact hlt)
        obtain ⟨b', o', rfl, hc'⟩ := (hK1.out _ (grown_refl _ _)).at (i := k) (by rw [hwn.out]; exact hlt)
        have hkI : (k : Int) < (n : Int) := by omega
        by_cases hgood : (0 ≤ gd bs k ∧ gd bs k ≤ 31) ∧ -1 ≤ gd ws k ∧ gd ws k < n ∧ gd ws k ≠ k
        · have hno' : Hid (∀ j, j < k + 1 → (0 ≤ gd bs j ∧ gd bs j ≤ 31) ∧ -1 ≤ gd ws j ∧ gd ws j < n ∧ gd ws j ≠ j) := fun j hj => by
            by_cases e : j = k
            · subst e; exact hgood
            · exact hno.out j (by omega)
          obtain ⟨⟨q1, q2⟩, q3, q4, q5⟩ := hgood
          generalize gd bs k = x at *
          generalize gd ws k = y at *
          have p1 : decide (x < 0) = false := decide_eq_false (by omega)
          have p2 : decide (31 < x) = false := decide_eq_false (by omega)
          have p3 : decide (y < -1) = false := decide_eq_false (by omega)
          have p4 : decide ((n : Int) ≤ y) = false := decide_eq_false (by omega)
          have p5 : (y == (k : Int)) = false := by rw [beq_eq_false_iff_ne]; exact q5
          clear q1 q2 q3 q4 q5 hno
          go_wp2_with fail
          go_roundw
          case rel => exact ⟨k + 1, by omega, by go_num, hno', by first | rfl | trivial⟩
          case measure => simp [intOf]; omega
        · have hbad : Hid (¬ Okr bs ws) := fun h => hgood ⟨h.base k (by rw [hn.out]; exact hlt), by have := h.to k (by rw [hn.out]; exact hlt); rw [hn.out] at this; exact this⟩
          generalize gd bs k = x at *
          generalize gd ws k = y at *
          have hcs : decide (x < 0) = true ∨ (decide (x < 0) = false ∧ decide (31 < x) = true) ∨ (decide (x < 0) = false ∧ decide (31 < x) = false ∧ decide (y < -1) = true) ∨
              (decide (x < 0) = false ∧ decide (31 < x) = false ∧ decide (y < -1) = false ∧ decide ((n : Int) ≤ y) = true) ∨ (decide (x < 0) = false ∧ decide (31 < x) = false ∧ decide (y < -1) = false ∧ decide ((n : Int) ≤ y) = false ∧ (y == (k : Int)) = true) := by
            simp only [decide_eq_true_eq, decide_eq_false_iff_not, beq_iff_eq]; omega
          clear hgood hno
          rcases hcs with p1 | ⟨p1, p2⟩ | ⟨p1, p2, p3⟩ | ⟨p1, p2, p3, p4⟩ | ⟨p1, p2, p3, p4, p5⟩
          all_goals
            go_wp2_with fail
            go_ret2
            exact .inl ⟨hbad.out, rfl, grown_refl _ _⟩
      · obtain rfl : n = k := by omega
        have hok : Okr bs ws := ⟨by rw [hn.out, hwn.out], by rw [hn.out]; exact hl2, fun i hi => (hno.out i (by rw [← hn.out]; exact hi)).1, fun i hi => by
          rw [hn.out]; exact (hno.out i (by rw [← hn.out]; exact hi)).2⟩
        replace hok := Lib.hid hok
        clear hno
        go_wp2_with (at_builtin; refine wpList_copy rfl _ _ 22 rfl 3 i0 Tryd.underlying22 hi0 hz0 hz1 hz2 A0 n c0 lo hi bs rfl rfl (hK0.out _ (grown_refl _ _)) hn.out (by omega) ?_; intro v w1 hM1 hg1)
        obtain ⟨A, c, rfl, -⟩ := hM1.form
        rw [hn.out] at hM1 ⊢
        go_loopg [8] (2 * room bs + 1) (fun gg t wr1 => ∃ out, Hid (Mid bs ws out) ∧ Mine wr1 w.heap.size 3 .i64 (.slice A n c) out ∧ w.grownBy wr1 none ∧ BoolP t (fun z => Hid (gg = 2 * room out + z.toNat ∧ (z = false → Closed ws (gd out)))))
        case atStart => exact ⟨bs, Mid.start bs ws, hM1, hg1, BoolP.of true ⟨rfl, fun h => Bool.noConfusion h⟩⟩
        case round =>
          obtain ⟨out, hM, hO, hg, z, rfl, hz⟩ := hrel
          have hol : out.length = n := hM.out.len.trans hn.out
          clear hM1 hg1
          cases z with
          | false =>
            go_wp2_with fail
            go_ret2
            exact .inr ⟨hok.out, out, _, rfl, ⟨hM.out, hz.out.2 (by first | rfl | trivial)⟩, hO, hg⟩
          | true =>
            have hgg := Lib.hid hz.out.1
            clear hz
            go_wp2_with fail
            go_loopg [8, 9] n (fun gi t i wr2 => ∃ (k : Nat) (out2 : List Int), k + gi = n ∧ i = .int .i64 k ∧ Hid (Mid bs ws out2) ∧ Mine wr2 w.heap.size 3 .i64 (.slice A n c) out2 ∧ w.grownBy wr2 none ∧
              BoolP t (fun z => Hid ((z = false → out2 = out ∧ ∀ j, j < k → 0 ≤ gd ws j → gd out j ≤ gd out (gd ws j).toNat) ∧ (z = true → room out2 < room out))))
            case atStart => exact ⟨0, out, by omega, rfl, hM, hO, hg, BoolP.of false ⟨fun _ => ⟨rfl, fun j hj => absurd hj (Nat.not_lt_zero _)⟩, fun h => Bool.noConfusion h⟩⟩
            case round =>
              obtain ⟨k, out2, hk2, rfl, hM2, hO2, hg2, z, rfl, hz⟩ := hrel
              clear hlt hO hg
              have hol2 : out2.length = n := hM2.out.len.trans hn.out
              by_cases hlt : k < n
              · have hkI : (k : Int) < (n : Int) := by omega
                obtain ⟨b', o', rfl, hc'⟩ := (hK1.out _ hg2).at (i := k) (by rw [hwn.out]; exact hlt)
                have hto : -1 ≤ gd ws k ∧ gd ws k < n ∧ gd ws k ≠ k := by have := hok.out.to k (by rw [hn.out]; exact hlt); rw [hn.out] at this; exact this
                by_cases hneg : gd ws k < 0
                · have hd : decide ((0 : Int) ≤ gd ws k) = false := decide_eq_false (by omega)
                  have hz' : Hid ((z = false → out2 = out ∧ ∀ j, j < k + 1 → 0 ≤ gd ws j → gd out j ≤ gd out (gd ws j).toNat) ∧ (z = true → room out2 < room out)) := ⟨fun e => ⟨(hz.out.1 e).1, fun j hj hp => by
                    by_cases e2 : j = k
                    · subst e2; omega
                    · exact (hz.out.1 e).2 j (by omega) hp⟩, hz.out.2⟩
                  generalize gd ws k = y at *
                  clear hneg hto hz
                  go_wp2_with fail
                  go_quiet (fail)
                  go_wp2_with fail
                  go_roundg (n - (k + 1))
                  case rel => exact ⟨k + 1, out2, by omega, by go_num, hM2, hO2.drewN _, grown_drewN hg2 _, BoolP.of z hz'⟩
                  case measure => omega
                · obtain ⟨t, ht⟩ := Int.eq_ofNat_of_zero_le (by omega : 0 ≤ gd ws k)
                  have htn : t < n := by omega
                  obtain ⟨g, rfl⟩ : ∃ g, A = some ⟨g, 0, none⟩ := by
                    obtain ⟨A', c', e, -, -, h3⟩ := hO2.form
                    cases e
                    rcases h3 with ⟨-, h⟩ | ⟨g, h, -⟩
                    · rw [h] at hlt; exact absurd hlt (by simp)
                    · exact ⟨g, h⟩
                  have hca := hO2.cell (i := k) (by rw [hol2]; exact hlt)
                  have hcb := hO2.cell (i := t) (by rw [hol2]; exact htn)
                  have hfb := hO2.frozen t
                  have htI : (t : Int) < (n : Int) := by omega
                  have ht0 : (0 : Int) ≤ (t : Int) := Int.natCast_nonneg _
                  have hk0 : (0 : Int) ≤ (k : Int) := Int.natCast_nonneg _
                  by_cases hr : gd out2 t < gd out2 k
                  · have hMs2 : Hid (Mid bs ws (out2.set t (gd out2 k))) := hM2.out.raise (by rw [hwn.out, hn.out]) (by rw [hn.out]; exact hlt) ht (by rw [hn.out]; exact htn) hr
                    have hrm : Hid (room (out2.set t (gd out2 k)) < room out) := by
                      have h1 := room_set out2 t _ (by rw [hol2]; exact htn) hr (by have := (hM2.out.fit hok.out k (by rw [hn.out]; exact hlt)).2; omega)
                      show _ < _
                      cases z with
                      | true => have := hz.out.2 rfl; omega
                      | false => rw [(hz.out.1 rfl).1] at h1 ⊢; exact h1
                    have hMs := Lib.hid (fun m => (hO2.drewN m).set t (gd out2 k))
                    have hd2 : decide (gd out2 t < gd out2 k) = true := decide_eq_true hr
                    have hlt1 := hO2.lt.1
                    rw [ht] at hc' hto
                    generalize hx : gd out2 k = x at *
                    generalize gd out2 t = z1 at *
                    clear hz
                    go_wp2_with fail
                    go_quiet (fail)
                    go_wp2_with fail
                    have hOq : Mine (wr.drewN nq) w.heap.size 3 .i64 (.slice (some ⟨g, 0, none⟩) n c) out2 := hO2.drewN nq
                    have hgq : w.grownBy (wr.drewN nq) none := grown_drewN hg2 nq
                    replace hc' : (wr.drewN nq).cell? ⟨b', o' + k, none⟩ = some (.int .i64 (t : Int)) := hc'
                    replace hca : (wr.drewN nq).cell? ⟨g, k, none⟩ = some (.int .i64 x) := hca
                    clear hcb hfb hO2 hg2 hMs
                    generalize wr.drewN nq = wq at *
                    go_still_tail 10, (by kernel_rfl)
                    have hMd : Hid (Mine wq.drew w.heap.size 3 .i64 (.slice (some ⟨g, 0, none⟩) n c) out2) := hOq.drewN 1
                    have hgd : Hid (w.grownBy wq.drew none) := grown_drewN hgq 1
                    change wpList _ _ _ _ _ wq.drew
                    clear hOq hgq hc' hca
                    generalize wq.drew = W0 at *
                    have hc1 := hMd.out.cell (i := t) (by rw [hol2]; exact htn)
                    have hf1 := hMd.out.frozen t
                    have hMn := Lib.hid (hMd.out.set t x)
                    have hgn := Lib.hid (grown_step hgd.out (grownBy_setCell W0 g t (.int .i64 x)) hlt1)
                    go_wp2_with fail
                    go_roundg (n - (k + 1))
                    case rel => exact ⟨k + 1, out2.set t x, by omega, by go_num, hMs2, hMn.out, hgn.out, BoolP.of true ⟨fun h => Bool.noConfusion h, fun _ => hrm.out⟩⟩
                    case measure => omega
                  · have hd2 : decide (gd out2 t < gd out2 k) = false := decide_eq_false hr
                    have hz' : Hid ((z = false → out2 = out ∧ ∀ j, j < k + 1 → 0 ≤ gd ws j → gd out j ≤ gd out (gd ws j).toNat) ∧ (z = true → room out2 < room out)) := ⟨fun e => ⟨(hz.out.1 e).1, fun j hj hp => by
                      by_cases e2 : j = k
                      · subst e2; rw [ht, Int.toNat_natCast, ← (hz.out.1 e).1]; omega
                      · exact (hz.out.1 e).2 j (by omega) hp⟩, hz.out.2⟩
                    have hOa := Lib.hid hO2
                    rw [ht] at hc' hto
                    generalize hx : gd out2 k = x at *
                    generalize gd out2 t = z1 at *
                    clear hz hO2
                    go_wp2_with fail
                    go_quiet (fail)
                    go_wp2_with fail
                    go_roundg (n - (k + 1))
                    case rel => exact ⟨k + 1, out2, by omega, by go_num, hM2, hOa.out.drewN _, grown_drewN hg2 _, BoolP.of z hz'⟩
                    case measure => omega
              · obtain rfl : n = k := by omega
                cases z with
                | true =>
                  have hrm := Lib.hid (hz.out.2 rfl)
                  clear hz
                  go_wp2_with fail
                  go_roundg (2 * room out2 + 1)
                  case rel => exact ⟨out2, hM2, hO2, hg2, BoolP.of true ⟨rfl, fun h => Bool.noConfusion h⟩⟩
                  case measure => have := hrm.out; have := hgg.out; simp at this; omega
                | false =>
                  have hcl := hz.out.1 rfl
                  have hcd : Hid (Closed ws (gd out2)) := fun i hi hp => by rw [hcl.1]; exact hcl.2 i (by rw [← hwn.out]; exact hi) hp
                  have he := Lib.hid hcl.1
                  clear hz hcl
                  go_wp2_with fail
                  go_roundg (2 * room out2 + 0)
                  case rel => exact ⟨out2, hM2, hO2, hg2, BoolP.of false ⟨rfl, fun _ => hcd.out⟩⟩
                  case measure => have h1 := he.out; have := hgg.out; simp at this; rw [h1]; omega
  · have hbad : Hid (¬ Okr bs ws) := fun h => hlen ⟨h.len, h.few⟩
    have hd : ((bs.length : Int) != (ws.length : Int)) = true ∨ (((bs.length : Int) != (ws.length : Int)) = false ∧ decide ((256 : Int) < (bs.length : Int)) = true) := by
      simp only [bne_iff_ne, ne_eq, bne_eq_false_iff_eq, decide_eq_true_eq]; omega
    clear hlen hs0 hs1
    rcases hd with hd | ⟨hd, hd2⟩
    all_goals
      go_enter Tryd.func7, Tryd.ntmps7
      go_wp2_with fail
      go_ret2
      exact .inl ⟨hbad.out, rfl, grown_refl _ _⟩
end Go.Proofs.YtigghlnnhdoabaaDoor
