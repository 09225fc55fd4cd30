/- Package ready: New. -/
import Derived.Test.YtdbddfbdhgohbaaGreatDoorRdy2
namespace Go.Proofs.YtdbddfbdhgohbaaGreatDoor
open Go.RowKit Go.Shelf Tk Tk.Lad Tk.Rdy
set_option linter.unusedVariables false
set_option linter.unusedSimpArgs false
/-- The cells while the rings are made. -/
def nv (k : Nat) (Bs : Nat → Nat) (i : Nat) : Value := if i = 0 then .int .u32 0 else if i ≤ k then .pointer (some ⟨Bs (i - 1), 0, none⟩) else if i ≤ 32 then .pointer none else .int .i64 0
def quZ : Array Value := ((List.range 289).map (nv 0 (fun _ => 0))).toArray
theorem quZ_size : quZ.size = 289 := by simp [quZ]
theorem zeroQ (w : World) : (zeroValue 58).run Tryz.prog w = .ok (.agg quZ) w := by kernel_rfl
theorem nv_full (Bs : Nat → Nat) (i : Nat) : nv 32 Bs i = qv Bs (fun _ => 0) 0 i := by
  unfold nv qv
  by_cases h0 : i = 0
  · rw [if_pos h0, if_pos h0]; rfl
  · rw [if_neg h0, if_neg h0]
    by_cases h1 : i ≤ 32
    · rw [if_pos h1, if_pos h1]
    · rw [if_neg h1, if_neg h1, if_neg h1]; rfl
set_option maxRecDepth 100000 in
set_option maxHeartbeats 4000000 in
theorem newq_ok (w : World) : Calls Tryz.prog 5 #[] w fun e w' => ∃ Q Bs Ms, e = .returned (.pointer (some ⟨Q, 0, none⟩)) ∧ Rq w' Q Bs Ms (fun _ => []) (fun _ => 0) 0 ∧ (∀ k, OwnQ Q Bs Ms k → w.heap.size ≤ k) ∧ w.grownBy w' none := by
  have hz := zeroQ
  have hs := quZ_size
  have hA0 := Arr.new w quZ 58 289 (nv 0 (fun _ => 0)) hs (fun i hi => by simp [quZ, hi])
  have hg0 := grown_alloc (grown_refl w none) (.cells quZ 58)
  obtain ⟨Q, hQ⟩ : ∃ Q, w.heap.size = Q := ⟨_, rfl⟩
  rw [hQ] at hA0
  go_enter Tryz.func5, Tryz.ntmps5
  go_wp2_with fail
  clear hz hs
  obtain ⟨W0, hW0⟩ : ∃ W0, w.alloc (.cells quZ 58) = W0 := ⟨_, rfl⟩
  rw [hW0] at hA0 hg0 ⊢
  clear hW0
  have hQ' : w.heap.size ≤ Q := by omega
  clear hQ
  go_loopw [5] (fun i wr => ∃ (k : Nat) (Bs Ms : Nat → Nat), k ≤ 32 ∧ i = .int .i64 k ∧ Arr wr Q 289 (nv k Bs) ∧ Hid (∀ r, r < k → ∃ f c, Rg wr (Bs r) (Ms r) 256 [] f c) ∧ Hid (∀ r, r < k → Bs r ≠ Q ∧ Ms r ≠ Q ∧ w.heap.size ≤ Bs r ∧ w.heap.size ≤ Ms r) ∧
      Hid (∀ r s, r < k → s < k → r ≠ s → Bs r ≠ Bs s ∧ Bs r ≠ Ms s ∧ Ms r ≠ Bs s ∧ Ms r ≠ Ms s) ∧ w.grownBy wr none) (fun i _ => 32 - (intOf i).toNat)
  case atStart => exact ⟨0, fun _ => 0, fun _ => 0, by omega, rfl, hA0, fun r hr => absurd hr (Nat.not_lt_zero _), fun r hr => absurd hr (Nat.not_lt_zero _), fun r s hr => absurd hr (Nat.not_lt_zero _), hg0⟩
  case round =>
    obtain ⟨k, Bs, Ms, hk, rfl, hA, hR, hD, hE, hg⟩ := hrel
    clear hA0 hg0
    by_cases hlt : k < 32
    · have hkI : (k : Int) < 32 := by omega
      have hk0 : (0 : Int) ≤ (k : Int) := Int.natCast_nonneg _
      go_wp2_with fail
      go_region_held3 (fun _ => True) (trivial) (first | (go_at_call 21; refine (new_ok 256 256 rfl (by decide) (by decide) _).mono ?_; rintro e w1 ⟨B, M, rfl, hR1, hM1, hB1, g1⟩; have hA1 : Arr w1 Q 289 (nv k Bs) := Arr.kept (w := wr) hA ⟨g1.os, g1.tape, g1.output, g1.size, g1.block⟩ (by simp); have hc1 := hA1.cell (i := 1 + k) (by omega); have hf1 := hA1.frozen (1 + k)))
      all_goals
        have hM1' : wr.heap.size ≤ M := hM1
        have hB1' : wr.heap.size ≤ B := hB1
        have g1' : wr.grownBy w1 none := ⟨g1.os, g1.tape, g1.output, g1.size, g1.block⟩
        have hQl := hA.lt
        have hws := hg.size
        have gs := grownBy_setCell w1 Q (1 + k) (.pointer (some ⟨B, 0, none⟩))
        have gf : Fr (fun j => j = Q) w1 (w1.setCell ⟨Q, 1 + k, none⟩ (.pointer (some ⟨B, 0, none⟩))) := Fr.of_grown gs (fun j e _ => by cases e; rfl)
        have hold : ∀ r, r < k → Bs r < wr.heap.size ∧ Ms r < wr.heap.size := fun r hr => by obtain ⟨f, c, h⟩ := hR.out r hr; exact ⟨h.hdr.lt, h.blk.lt⟩
        have hA2 : Hid (Arr (w1.setCell ⟨Q, 1 + k, none⟩ (.pointer (some ⟨B, 0, none⟩))) Q 289 (nv (k + 1) (upd Bs k B))) := (hA1.set (k := 1 + k) (by omega) _).congr fun i hi => by
          unfold nv
          by_cases e : i = 1 + k
          · subst e; rw [if_pos rfl, if_neg (show ¬ 1 + k = 0 by omega), if_pos (show 1 + k ≤ k + 1 by omega), show 1 + k - 1 = k by omega, upd_same]
          · rw [if_neg e]
            by_cases e0 : i = 0
            · rw [if_pos e0, if_pos e0]
            · rw [if_neg e0, if_neg e0]
              by_cases e1 : i ≤ k
              · rw [if_pos e1, if_pos (show i ≤ k + 1 by omega), upd_ne _ _ (show i - 1 ≠ k by omega)]
              · rw [if_neg e1, if_neg (show ¬ i ≤ k + 1 by omega)]
        have hR2 : Hid (∀ r, r < k + 1 → ∃ f c, Rg (w1.setCell ⟨Q, 1 + k, none⟩ (.pointer (some ⟨B, 0, none⟩))) (upd Bs k B r) (upd Ms k M r) 256 [] f c) := fun r hr => by
          by_cases e : r = k
          · subst e; rw [upd_same, upd_same]; exact ⟨_, _, hR1.fr gf (by omega) (by omega)⟩
          · rw [upd_ne _ _ e, upd_ne _ _ e]
            obtain ⟨f, c, h⟩ := hR.out r (by omega)
            exact ⟨f, c, (h.keep g1').fr gf (hD.out r (by omega)).1 (hD.out r (by omega)).2.1⟩
        have hD2 : Hid (∀ r, r < k + 1 → upd Bs k B r ≠ Q ∧ upd Ms k M r ≠ Q ∧ w.heap.size ≤ upd Bs k B r ∧ w.heap.size ≤ upd Ms k M r) := fun r hr => by
          by_cases e : r = k
          · subst e; rw [upd_same, upd_same]; omega
          · rw [upd_ne _ _ e, upd_ne _ _ e]; exact hD.out r (by omega)
        have hE2 : Hid (∀ r s, r < k + 1 → s < k + 1 → r ≠ s → upd Bs k B r ≠ upd Bs k B s ∧ upd Bs k B r ≠ upd Ms k M s ∧ upd Ms k M r ≠ upd Bs k B s ∧ upd Ms k M r ≠ upd Ms k M s) := fun r s hr hs hne => by
          by_cases e : r = k
          · have es : s ≠ k := by omega
            subst e
            rw [upd_same, upd_same, upd_ne _ _ es, upd_ne _ _ es]
            have := hold s (by omega); omega
          · rw [upd_ne _ _ e, upd_ne _ _ e]
            by_cases es : s = k
            · subst es; rw [upd_same, upd_same]
              have := hold r (by omega); omega
            · rw [upd_ne _ _ es, upd_ne _ _ es]; exact hE.out r s (by omega) (by omega) hne
        have hg2 := Lib.hid (grown_step (grown_trans hg g1') gs hQ')
        clear hold gs gf hc1 hf1 hA1 hR1
        go_wp2_with fail
        go_roundw
        case rel => exact ⟨k + 1, upd Bs k B, upd Ms k M, by omega, by go_num, hA2.out, hR2.out, hD2.out, hE2.out, hg2.out⟩
        case measure => simp [intOf]; omega
    · obtain rfl : k = 32 := by omega
      go_wp2_with fail
      go_ret
      refine ⟨Q, Bs, Ms, rfl, ⟨hA.congr fun i _ => nv_full Bs i, hR.out, fun r hr => ⟨(hD.out r hr).1, (hD.out r hr).2.1⟩, hE.out⟩, ?_, hg⟩
      rintro j (rfl | ⟨r, hr, rfl | rfl⟩)
      · exact hQ'
      · exact (hD.out r hr).2.2.1
      · exact (hD.out r hr).2.2.2
end Go.Proofs.YtdbddfbdhgohbaaGreatDoor
