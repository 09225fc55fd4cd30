/- timekeeperref18: Leave. -/
import Derived.Test.YtneamjaglgnmkaaGreatDoorObRef8
namespace Go.Proofs.YtneamjaglgnmkaaGreatDoor
open Go.RowKit Go.Shelf Tk Tk.Msk
set_option linter.unusedVariables false
set_option linter.unusedSimpArgs false
namespace RefO
variable {w W : World} {R : Nat} {vr vo : Value} {S : TR}
def BoolIs (v : Value) (P : Bool → Prop) : Prop := ∃ q, v = .bool q ∧ P q
theorem BoolIs.of {P : Bool → Prop} (q : Bool) (h : P q) : BoolIs (.bool q) P := ⟨q, rfl, h⟩
/-- The cell of an owner, as an owner's list is cleared. -/
theorem openC {o' : Int} {os' : List Int} {n c : Nat} {A : Option Addr} (h : RQ W R vr (.slice A n c) { S with o := o', os := os' }) (hn : os'.length = n) : ∀ i, i < n → ∃ M, A = some ⟨M, 0, none⟩ ∧ W.cell? ⟨M, i, none⟩ = some (.int .u32 (gd os' i)) ∧ W.frozen? ⟨M, i, none⟩ = false :=
  cellsO h hn
set_option maxRecDepth 100000 in
set_option maxHeartbeats 8000000 in
theorem rleave_zero (h : RQ w R vr vo S) : Calls Tryz.prog 9 #[.pointer (some ⟨R, 0, none⟩), .int .u32 0] w fun e w' => e = .returned (.bool false) ∧ w = w' := by
  obtain ⟨n, hn⟩ : ∃ n, S.os.length = n := ⟨_, rfl⟩
  obtain ⟨A, cc, rfl, hcc, hcm, -, -⟩ := h.openO hn
  have hn64 : n ≤ 64 := by have := h.l2; omega
  have c6 := h.c6
  clear h
  go_enter Tryz.func9, Tryz.ntmps9
  go_wp2_with fail
  go_loopw [5, 6] (fun c i wr => c = .bool false ∧ ∃ k : Nat, k ≤ n ∧ i = .int .i64 k ∧ wr = w) (fun _ i _ => n - (intOf i).toNat)
  case atStart => exact ⟨rfl, 0, Nat.zero_le _, rfl, rfl⟩
  case round =>
    obtain ⟨rfl, k, hk, rfl, hww⟩ := hrel
    obtain rfl : w = wr := hww.symm
    by_cases hlt : k < n
    · have hkI : (k : Int) < (n : Int) := by omega
      go_wp2_with fail
      go_roundw
      case rel => exact ⟨rfl, k + 1, by omega, by go_num, by first | rfl | trivial⟩
      case measure => exact meas n k hlt
    · obtain rfl : n = k := by omega
      go_wp2_with fail
      go_ret
      exact ⟨rfl, rfl⟩
set_option maxRecDepth 100000 in
set_option maxHeartbeats 8000000 in
theorem rleave (h : RQ w R vr vo S) (who : Int) (hw : who ≠ 0) : Calls Tryz.prog 9 #[.pointer (some ⟨R, 0, none⟩), .int .u32 who] w fun e w' =>
    e = .returned (.bool (decide (S.o = who) || decide (0 < S.os.count who))) ∧ Post w R vr vo { S with o := if S.o = who then 0 else S.o, os := S.os.map fun x => if x = who then 0 else x } w' := by
  obtain ⟨n, hn⟩ : ∃ n, S.os.length = n := ⟨_, rfl⟩
  obtain ⟨A, cc, rfl, hcc, hcm, -, -⟩ := h.openO hn
  have hn64 : n ≤ 64 := by have := h.l2; omega
  have c4 := h.c4
  have hw0 : (who != 0) = true := by rw [bne_iff_ne]; exact hw
  have hcl : Hid (PolN.clr who S.os n = S.os.map fun x => if x = who then 0 else x) := by rw [← hn]; exact PolN.clr_all who S.os
  by_cases ho : S.o = who
  · rw [if_pos ho, decide_eq_true ho]
    obtain ⟨o1, ho1⟩ : ∃ o1 : Int, (0 : Int) = o1 := ⟨0, rfl⟩
    have hz4 := h.fz 4
    rw [ho] at c4
    have hst : Hid (RQ (w.setCell ⟨R, 4, none⟩ (.int .u32 0)) R vr (.slice A n cc) { S with o := o1, os := PolN.clr who S.os 0 }) := by
      obtain ⟨vr', vo', h1, -, -⟩ := h.postO (grown_refl w none) 0
      have gS := grownBy_setCell w R 4 (.int .u32 0)
      rw [PolN.clr_zero, ← ho1]
      exact ⟨heap_set 4 _ h.blk, h.row.kept gS (.inr h.n1), h.own.kept gS (.inr h.n2), h.n1, h.n2, h.ap, h.l1, h.l2⟩
    have hF0 : Hid (Fr (OwnQ R vr (.slice A n cc)) w (w.setCell ⟨R, 4, none⟩ (.int .u32 0))) := Fr.of_grown (grownBy_setCell w R 4 (.int .u32 0)) (fun k e _ => by cases e; exact .inl rfl)
    rw [show (⟨S.k, S.a, S.b, S.n, (0 : Int), S.rs, S.os.map fun x => if x = who then 0 else x⟩ : TR) = ⟨S.k, S.a, S.b, S.n, o1, S.rs, S.os.map fun x => if x = who then 0 else x⟩ by rw [ho1]]
    have hRl := h.lt R (.inl rfl)
    replace hn := Lib.hid hn
    replace ho := Lib.hid ho
    replace ho1 := Lib.hid ho1
    clear h hw
    go_enter Tryz.func9, Tryz.ntmps9
    go_wp2_with fail
    go_loopw [5, 6] (fun c i wr => ∃ k : Nat, k ≤ n ∧ i = .int .i64 k ∧ BoolIs c (fun q => Hid (q = (true || decide (0 < PolN.cnt who S.os k)))) ∧ Hid (RQ wr R vr (.slice A n cc) { S with o := o1, os := PolN.clr who S.os k }) ∧ Hid (Fr (OwnQ R vr (.slice A n cc)) w wr)) (fun _ i _ => n - (intOf i).toNat)
    case atStart => exact ⟨0, Nat.zero_le _, rfl, BoolIs.of _ (by show _ = _; simp [PolN.cnt]), hst, hF0⟩
    case round =>
      obtain ⟨k, hk, rfl, ⟨qb, rfl, hqb⟩, hR, hF⟩ := hrel
      clear hst hF0
      have hln : (PolN.clr who S.os k).length = n := by rw [PolN.clr_len]; exact hn.out
      have c6 := hR.out.c6
      by_cases hlt : k < n
      · obtain ⟨M, rfl, q, qf⟩ := openC hR.out hln k hlt
        rw [PolN.gd_clr_at (by rw [hn.out]; exact hlt)] at q
        have hkI : (k : Int) < (n : Int) := by omega
        by_cases h0 : gd S.os k = who
        · have hq2 : Hid (true = (true || decide (0 < PolN.cnt who S.os (k + 1)))) := by
            show _ = _
            rw [PolN.cnt_succ_eq (by rw [hn.out]; exact hlt) h0]; simp
          have hR2 : Hid (RQ (wr.setCell ⟨M, k, none⟩ (.int .u32 0)) R vr (.slice (some ⟨M, 0, none⟩) n cc) { S with o := o1, os := PolN.clr who S.os (k + 1) }) := by
            rw [PolN.clr_succ_eq (by rw [hn.out]; exact hlt) h0]; exact hR.out.setO k 0
          have hF2 : Hid (Fr (OwnQ R vr (.slice (some ⟨M, 0, none⟩) n cc)) w (wr.setCell ⟨M, k, none⟩ (.int .u32 0))) := hF.out.trans (Fr.of_grown (grownBy_setCell wr M k (.int .u32 0)) (fun k e _ => by cases e; exact .inr (.inr rfl)))
          rw [h0] at q
          replace h0 := Lib.hid h0
          clear hln hqb
          go_wp2_with fail
          go_roundw
          case rel => exact ⟨k + 1, by omega, by go_num, BoolIs.of _ hq2, hR2, hF2⟩
          case measure => exact meas n k hlt
        · have hq2 : Hid (qb = (true || decide (0 < PolN.cnt who S.os (k + 1)))) := by
            show _ = _
            rw [PolN.cnt_succ_ne (by rw [hn.out]; exact hlt) h0]; exact hqb.out
          have hR2 : Hid (RQ wr R vr (.slice (some ⟨M, 0, none⟩) n cc) { S with o := o1, os := PolN.clr who S.os (k + 1) }) := by
            rw [PolN.clr_succ_ne (by rw [hn.out]; exact hlt) h0]; exact hR.out
          have y0 : (gd S.os k == who) = false := by rw [beq_eq_false_iff_ne]; exact h0
          replace h0 := Lib.hid h0
          clear hln hqb
          generalize gd S.os k = y at *
          go_wp2_with fail
          go_roundw
          case rel => exact ⟨k + 1, by omega, by go_num, BoolIs.of _ hq2, hR2, hF⟩
          case measure => exact meas n k hlt
      · obtain rfl : n = k := by omega
        have hq2 : Hid (qb = (true || decide (0 < S.os.count who))) := by
          have := hqb.out
          rw [← hn.out, PolN.cnt_all] at this
          exact this
        have hR2 := hR.out
        rw [hcl.out] at hR2
        replace hR2 := Lib.hid hR2
        clear hqb hln hR
        go_wp2_with fail
        go_ret
        exact ⟨by rw [← hq2.out]; rfl, _, _, hR2.out, hF.out, fun b hb => .inl hb⟩
  · rw [if_neg ho, decide_eq_false ho]
    obtain ⟨o1, ho1⟩ : ∃ o1 : Int, S.o = o1 := ⟨_, rfl⟩
    have hoo : (S.o == who) = false := by rw [beq_eq_false_iff_ne]; exact ho
    have hst : Hid (RQ w R vr (.slice A n cc) { S with o := o1, os := PolN.clr who S.os 0 }) := by
      rw [PolN.clr_zero, ← ho1]; exact h
    have hF0 : Hid (Fr (OwnQ R vr (.slice A n cc)) w w) := Fr.refl _ _
    rw [show (⟨S.k, S.a, S.b, S.n, S.o, S.rs, S.os.map fun x => if x = who then 0 else x⟩ : TR) = ⟨S.k, S.a, S.b, S.n, o1, S.rs, S.os.map fun x => if x = who then 0 else x⟩ by rw [ho1]]
    replace hn := Lib.hid hn
    replace ho := Lib.hid ho
    replace ho1 := Lib.hid ho1
    clear h hw
    go_enter Tryz.func9, Tryz.ntmps9
    go_wp2_with fail
    go_loopw [5, 6] (fun c i wr => ∃ k : Nat, k ≤ n ∧ i = .int .i64 k ∧ BoolIs c (fun q => Hid (q = (false || decide (0 < PolN.cnt who S.os k)))) ∧ Hid (RQ wr R vr (.slice A n cc) { S with o := o1, os := PolN.clr who S.os k }) ∧ Hid (Fr (OwnQ R vr (.slice A n cc)) w wr)) (fun _ i _ => n - (intOf i).toNat)
    case atStart => exact ⟨0, Nat.zero_le _, rfl, BoolIs.of _ (by show _ = _; simp [PolN.cnt]), hst, hF0⟩
    case round =>
      obtain ⟨k, hk, rfl, ⟨qb, rfl, hqb⟩, hR, hF⟩ := hrel
      clear hst hF0
      have hln : (PolN.clr who S.os k).length = n := by rw [PolN.clr_len]; exact hn.out
      have c6 := hR.out.c6
      by_cases hlt : k < n
      · obtain ⟨M, rfl, q, qf⟩ := openC hR.out hln k hlt
        rw [PolN.gd_clr_at (by rw [hn.out]; exact hlt)] at q
        have hkI : (k : Int) < (n : Int) := by omega
        by_cases h0 : gd S.os k = who
        · have hq2 : Hid (true = (false || decide (0 < PolN.cnt who S.os (k + 1)))) := by
            show _ = _
            rw [PolN.cnt_succ_eq (by rw [hn.out]; exact hlt) h0]; simp
          have hR2 : Hid (RQ (wr.setCell ⟨M, k, none⟩ (.int .u32 0)) R vr (.slice (some ⟨M, 0, none⟩) n cc) { S with o := o1, os := PolN.clr who S.os (k + 1) }) := by
            rw [PolN.clr_succ_eq (by rw [hn.out]; exact hlt) h0]; exact hR.out.setO k 0
          have hF2 : Hid (Fr (OwnQ R vr (.slice (some ⟨M, 0, none⟩) n cc)) w (wr.setCell ⟨M, k, none⟩ (.int .u32 0))) := hF.out.trans (Fr.of_grown (grownBy_setCell wr M k (.int .u32 0)) (fun k e _ => by cases e; exact .inr (.inr rfl)))
          rw [h0] at q
          replace h0 := Lib.hid h0
          clear hln hqb
          go_wp2_with fail
          go_roundw
          case rel => exact ⟨k + 1, by omega, by go_num, BoolIs.of _ hq2, hR2, hF2⟩
          case measure => exact meas n k hlt
        · have hq2 : Hid (qb = (false || decide (0 < PolN.cnt who S.os (k + 1)))) := by
            show _ = _
            rw [PolN.cnt_succ_ne (by rw [hn.out]; exact hlt) h0]; exact hqb.out
          have hR2 : Hid (RQ wr R vr (.slice (some ⟨M, 0, none⟩) n cc) { S with o := o1, os := PolN.clr who S.os (k + 1) }) := by
            rw [PolN.clr_succ_ne (by rw [hn.out]; exact hlt) h0]; exact hR.out
          have y0 : (gd S.os k == who) = false := by rw [beq_eq_false_iff_ne]; exact h0
          replace h0 := Lib.hid h0
          clear hln hqb
          generalize gd S.os k = y at *
          go_wp2_with fail
          go_roundw
          case rel => exact ⟨k + 1, by omega, by go_num, BoolIs.of _ hq2, hR2, hF⟩
          case measure => exact meas n k hlt
      · obtain rfl : n = k := by omega
        have hq2 : Hid (qb = (false || decide (0 < S.os.count who))) := by
          have := hqb.out
          rw [← hn.out, PolN.cnt_all] at this
          exact this
        have hR2 := hR.out
        rw [hcl.out] at hR2
        replace hR2 := Lib.hid hR2
        clear hqb hln hR
        go_wp2_with fail
        go_ret
        exact ⟨by rw [← hq2.out]; rfl, _, _, hR2.out, hF.out, fun b hb => .inl hb⟩
end RefO
end Go.Proofs.YtneamjaglgnmkaaGreatDoor
