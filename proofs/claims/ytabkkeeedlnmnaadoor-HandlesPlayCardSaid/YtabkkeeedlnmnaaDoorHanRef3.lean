/- timekeeperref08: Make, Place, Drop, List. -/
import Derived.Test.YtabkkeeedlnmnaaDoorHanRef2
namespace Go.Proofs.YtabkkeeedlnmnaaDoor
open Go.RowKit Go.Shelf Tk
set_option linter.unusedVariables false
set_option linter.unusedSimpArgs false
namespace RefH
variable {w w' : World} {R : Nat} {v : Nat × Nat} {t : Tab}
set_option maxRecDepth 100000 in
set_option maxHeartbeats 4000000 in
theorem make_ok (h : RQ w R v t) (ht : t.inn) : Calls Tryd.prog 18 #[.pointer (some ⟨R, 0, none⟩)] w fun e w' => e = .returned (.tuple #[.int .u32 t.make.2.1, .int .i64 t.make.2.2]) ∧ Post w R v t.make.1 w' := by
  obtain ⟨n, hn⟩ : ∃ n, t.many = n := ⟨_, rfl⟩
  obtain ⟨v1, v2⟩ := v
  have c0 := h.c0
  have c1 := h.c1
  rw [hn] at c0 c1
  have hage := Lib.hid (fun i (hi : i < n) => h.age.cell (i := i) (by rw [hn]; exact hi))
  have hagf := Lib.hid (fun i => h.age.frozen i)
  have hdrp := Lib.hid (fun i (hi : i < n) => h.drp.cell (i := i) (by rw [hn]; exact hi))
  have hdrf := Lib.hid (fun i => h.drp.frozen i)
  have hsame := Lib.hid (h.same (grown_refl w none))
  have htake := Lib.hid (fun k (hk : k < n) => h.post_take (k := k) (by rw [hn]; exact hk))
  have hne := h.ne.2.2
  have hn1 := h.ne.1
  have hn2 := h.ne.2.1
  have hok := Lib.hid ht.1.1
  have hn256 : n ≤ 256 := by rw [← hn]; exact ht.1.2.2
  simp only at hne hn1 hn2 c0 c1
  replace hn := Lib.hid hn
  clear h ht
  go_enter Tryd.func18, Tryd.ntmps18
  go_wp2_with fail
  go_loopw [4] (fun i wr => ∃ k : Nat, k ≤ n ∧ i = .int .i64 k ∧ Hid (∀ j, j < k → t.free j = false) ∧ wr = w) (fun i _ => n - (intOf i).toNat)
  case atStart => exact ⟨0, Nat.zero_le _, rfl, fun j hj => absurd hj (Nat.not_lt_zero _), rfl⟩
  case round =>
    obtain ⟨k, hk, rfl, hno, hww⟩ := hrel
    obtain rfl : w = wr := hww.symm
    by_cases hlt : k < n
    · have hkI : (k : Int) < (n : Int) := by omega
      have q1 : w.cell? ⟨v2, k, none⟩ = some (.bool (!t.tk k)) := hdrp.out k hlt
      have q2 : w.cell? ⟨v1, k, none⟩ = some (.int .u32 (t.age k)) := hage.out k hlt
      have f1 : w.frozen? ⟨v1, k, none⟩ = false := hagf.out k
      have f2 : w.frozen? ⟨v2, k, none⟩ = false := hdrf.out k
      have hak := hok.out k
      have hT := Lib.hid (htake.out k hlt)
      have hfr : Hid (t.free k = (!t.tk k && decide (t.age k < 16777215))) := rfl
      have hhh : Hid (256 * ((t.age k : Int) + 1) + (k : Int) = (((t.take k).h k : Nat) : Int)) := by
        show _ = _
        have e : (t.take k).h k = (t.age k + 1) * 256 + k := by simp [Tab.h, Tab.take]
        rw [e]; push_cast; omega
      have hl : Hid (t.free k = true → t.make = (t.take k, (t.take k).h k, 0)) := fun hf => by
        unfold Tab.make; rw [least_some (by rw [hn.out]; exact hlt) hno.out hf]
      by_cases hf : t.free k = true
      · have hm := Lib.hid (hl.out hf)
        have hb : t.tk k = false ∧ t.age k < 16777215 := by
          rw [hfr.out] at hf; simpa using hf
        obtain ⟨hb1, hb2⟩ := hb
        rw [hb1] at q1
        simp only [Bool.not_false] at q1
        have hlt2 : decide ((t.age k : Int) < 16777215) = true := decide_eq_true (by omega)
        generalize t.age k = y at *
        clear hf hfr hl hno hb1
        go_wp2_with fail
        go_ret2
        exact ⟨by rw [hhh.out, hm.out]; rfl, by rw [hm.out]; exact hT.out⟩
      · have hff : t.free k = false := by simpa using hf
        have hno' : Hid (∀ j, j < k + 1 → t.free j = false) := fun j hj => by
          by_cases e : j = k
          · subst e; exact hff
          · exact hno.out j (by omega)
        rw [hfr.out] at hff
        cases hb1 : t.tk k with
        | true =>
          rw [hb1] at q1
          simp only [Bool.not_true] at q1
          clear hf hff hfr hl hb1 q2 f1 f2
          go_wp2_with fail
          go_roundw
          case rel => exact ⟨k + 1, by omega, by go_num, hno', by first | rfl | trivial⟩
          case measure => exact meas n k hlt
        | false =>
          rw [hb1] at q1 hff
          simp only [Bool.not_false] at q1
          have hlt2 : decide ((t.age k : Int) < 16777215) = false := decide_eq_false (by simp at hff; omega)
          generalize t.age k = y at *
          clear hf hff hfr hl hb1 f1 f2
          go_wp2_with fail
          go_roundw
          case rel => exact ⟨k + 1, by omega, by go_num, hno', by first | rfl | trivial⟩
          case measure => exact meas n k hlt
    · obtain rfl : n = k := by omega
      have hm : Hid (t.make = (t, 0, 3)) := by
        show _ = _
        unfold Tab.make; rw [least_none (fun i hi => hno.out i (by rw [← hn.out]; exact hi))]
      go_wp2_with fail
      go_ret2
      exact ⟨by rw [hm.out]; rfl, by rw [hm.out]; exact hsame.out⟩
end RefH
end Go.Proofs.YtabkkeeedlnmnaaDoor
