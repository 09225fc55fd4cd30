/- HeirsLeast. -/
import Derived.Test.YtigghlnnhdoabaaHeiA
namespace Go.Proofs.Ytigghlnnhdoabaa
open Go.RowKit Go.Shelf Tk Tk.Hei
set_option linter.unusedVariables false
set_option linter.unusedSimpArgs false

theorem grown_cell {w w' : World} (h : w.grownBy w' none) {p : Addr} {v : Value} (hc : w.cell? p = some v) : w'.cell? p = some v := by
  rw [← hc]
  refine World.cell?_of_block (w := w) (h.block p.block ?_ (by simp))
  by_cases hb : p.block < w.heap.size
  · exact hb
  · exfalso
    unfold World.cell? at hc
    rw [Array.getElem?_eq_none (by omega)] at hc
    cases hc
def BoolIs (v : Value) (P : Bool → Prop) : Prop := ∃ q, v = .bool q ∧ P q
theorem BoolIs.of {P : Bool → Prop} (q : Bool) (h : P q) : BoolIs (.bool q) P := ⟨q, rfl, h⟩
theorem Okr.waits {bs ws : List Int} (h : Okr bs ws) {i : Nat} (hi : i < bs.length) : -1 ≤ gd ws i ∧ gd ws i < bs.length := ⟨(h.to i hi).1, (h.to i hi).2.1⟩
set_option maxRecDepth 100000 in
set_option maxHeartbeats 8000000 in
theorem heirsLeast_walk (A0 : Option Addr) (c0 : Nat) (bs : List Int) (hl0 : bs.length ≤ c0) (A1 : Option Addr) (c1 : Nat) (ws : List Int) (hl1 : ws.length ≤ c1) (w : World)
    (hs0 : SlA w 0 w.heap.size .i64 A0 bs) (hf0 : ∀ x ∈ bs, (Lit.int .i64 x).wf = true) (hb0 : bs.length * 8 ≤ 140737488351232)
    (hs1 : SlA w 0 w.heap.size .i64 A1 ws) (hf1 : ∀ x ∈ ws, (Lit.int .i64 x).wf = true) (hb1 : ws.length * 8 ≤ 140737488351232) :
    Calls Try.prog 4 #[.slice A0 bs.length c0, .slice A1 ws.length c1] w fun e w' => e = .returned (.bool true) ∧ w.grownBy w' none := by
  clear hf0 hf1
  have hr := Lib.hid (ranks_any A0 A1 c0 c1 0 w.heap.size 0 w.heap.size bs ws w hs0 hs1)
  have hK0 := Lib.hid (fun wr (h : w.grownBy wr none) => hs0.kept h (by simp))
  have hK1 := Lib.hid (fun wr (h : w.grownBy wr none) => hs1.kept h (by simp))
  obtain ⟨n, hn⟩ : ∃ n, bs.length = n := ⟨_, rfl⟩
  obtain ⟨m, hm⟩ : ∃ m, ws.length = m := ⟨_, rfl⟩
  rw [hn, hm] at hr ⊢
  rw [hn] at hl0 hb0
  rw [hm] at hl1 hb1
  replace hn := Lib.hid hn
  replace hm := Lib.hid hm
  clear hs0 hs1
  go_enter Try.func4, Try.ntmps4
  go_wp2_with fail
  refine hr.out.mono ?_; rintro e w1 (⟨hno, rfl, hg⟩ | ⟨hok, out, A, rfl, hL, hC, hg⟩)
  · replace hno := Lib.hid hno
    go_wp2_with fail
    refine (lives_any _).mono ?_; rintro e w2 ⟨rfl, hg2⟩
    go_wp2_with fail
    go_ret
    exact ⟨rfl, grown_trans hg hg2⟩
  · have hn256 : n ≤ 256 := by have := hok.few; rwa [hn.out] at this
    have hol : out.length = n := hL.len.trans hn.out
    have hmn : m = n := by have := hok.len; rwa [hm.out, hn.out] at this
    subst hmn
    rw [hol]
    replace hol := Lib.hid hol
    replace hL := Lib.hid hL
    replace hok := Lib.hid hok
    go_wp2_with fail
    go_loopw [7] (fun i wr => ∃ k : Nat, k ≤ m ∧ i = .int .i64 k ∧ w.grownBy wr none ∧ Cut wr w.heap.size A out) (fun i _ => m - (intOf i).toNat)
    case atStart => exact ⟨0, Nat.zero_le _, rfl, hg, hC⟩
    case round =>
      obtain ⟨i, hi, rfl, hg, hC⟩ := hrel
      by_cases hlt : i < m
      · have hiI : (i : Int) < (m : Int) := by omega
        have hi0 : (0 : Int) ≤ (i : Int) := Int.natCast_nonneg _
        obtain ⟨b0, o0, rfl, hc0⟩ := (hK0.out _ hg).at (i := i) (by rw [hn.out]; exact hlt)
        obtain ⟨b1, o1, rfl, hc1⟩ := (hK1.out _ hg).at (i := i) (by rw [hm.out]; exact hlt)
        obtain ⟨b2, o2, rfl, hc2⟩ := hC.sl.at (i := i) (by rw [hol.out]; exact hlt)
        have hbase := hL.out.base i (by rw [hn.out]; exact hlt)
        obtain ⟨hto1, hto2⟩ := Okr.waits hok.out (i := i) (by rw [hn.out]; exact hlt)
        rw [hn.out] at hto2
        have hcl := hL.out.closed i (by rw [hm.out]; exact hlt)
        obtain ⟨kk, hkk, hke, hkr⟩ := hL.out.come i (by rw [hn.out]; exact hlt)
        rw [hn.out] at hkk
        have hcirc : Circ ws i kk := ⟨hok.out.okw, by omega, by rw [hm.out]; exact hiI, by omega, by rw [hm.out]; omega, hkr⟩
        have hmem : ∃ kk, kk < m ∧ gd bs kk = gd out i ∧ Circ ws i kk := ⟨kk, hkk, hke, hcirc⟩
        replace hmem := Lib.hid hmem
        clear hkk hke hkr hcirc
        have d1 : decide (gd out i < gd bs i) = false := decide_eq_false (by omega)
        have hD : Hid (∀ q, q = decide (gd out i = gd bs i) → (gd out i == gd bs i) = q) := fun q h => by
          rw [h]; by_cases e : gd out i = gd bs i <;> simp [e]
        have hnext : (decide ((0 : Int) ≤ gd ws i) = false) ∨ (∃ t : Nat, gd ws i = t ∧ t < m ∧ decide (gd out t < gd out i) = false) := by
          by_cases h0 : (0 : Int) ≤ gd ws i
          · right
            obtain ⟨t, ht⟩ := Int.eq_ofNat_of_zero_le h0
            have := hcl h0
            rw [ht, Int.toNat_natCast] at this
            exact ⟨t, ht, by omega, decide_eq_false (by omega)⟩
          · left; exact decide_eq_false h0
        clear hbase hcl hto1 hto2
        have hfact : Hid (∀ t : Nat, t < m → wr.cell? ⟨b2, o2 + t, none⟩ = some (.int .i64 (gd out t))) := fun t ht => hC.sl.cell (by rw [hol.out]; exact ht)
        replace hC := Lib.hid hC
        rcases hnext with d2 | ⟨t, ht, htm, d3⟩
        rotate_left
        · have hct := hfact.out t htm
          have htI : (t : Int) < (m : Int) := by omega
          have ht0 : (0 : Int) ≤ (t : Int) := Int.natCast_nonneg _
          rw [ht] at hc1
          replace ht := Lib.hid ht
          go_wp2_with fail
          go_quiet (fail)
          go_wp2_with fail
          go_quiet (fail)
          go_wp2_with fail
          go_loopw [8, 9] (fun s j wr => ∃ k : Nat, k ≤ m ∧ j = .int .i64 k ∧ BoolIs s (fun q => Hid (q = false → ∀ j, j < k → ¬ (gd bs j = gd out i ∧ Circ ws i j))) ∧ w.grownBy wr none ∧ Hid (Cut wr w.heap.size (some ⟨b2, o2, none⟩) out)) (fun _ j _ => m - (intOf j).toNat)
          case atStart => exact ⟨0, Nat.zero_le _, rfl, BoolIs.of _ (fun _ j hj => absurd hj (Nat.not_lt_zero _)), by first | exact hg | exact grown_drewN hg _ | exact grown_drewN (grown_drewN hg _) _, by first | exact hC.out | exact hC.out.keep (grown_drewN (grown_refl _ _) _) | exact hC.out.keep (grown_drewN (grown_drewN (grown_refl _ _) _) _)⟩
          case round =>
            obtain ⟨k, hk, rfl, ⟨q, rfl, hq⟩, hg2, hC2⟩ := hrel
            cases q with
            | true =>
              have hkc : ((k : Int) < (m : Int)) ∨ k = m := by omega
              rcases hkc with hkc | rfl
              all_goals
                go_wp2_with fail
                go_roundw
                case rel => exact ⟨i + 1, by omega, by go_num, hg2, hC2.out⟩
                case measure => simp [intOf]; omega
            | false =>
              by_cases hkm : k < m
              · have hkI : (k : Int) < (m : Int) := by omega
                have hk0 : (0 : Int) ≤ (k : Int) := Int.natCast_nonneg _
                have ec0 := (hK0.out _ hg2).cell (i := k) (by rw [hn.out]; exact hkm)
                have ec2 := hC2.out.sl.cell (i := i) (by rw [hol.out]; exact hlt)
                have hsw := hK1.out _ hg2
                by_cases he : gd bs k = gd out i
                · obtain ⟨q, hqc⟩ : ∃ q : Bool, q = true ↔ Circ ws i k := by classical exact ⟨decide (Circ ws i k), by simp⟩
                  have hci := Lib.hid (fun W (hg : w.grownBy W none) => circle_n (some ⟨b1, o1, none⟩) c1 0 w.heap.size m ws hm.out (by omega) (i : Int) (k : Int) q hqc W (hK1.out _ hg))
                  have hq' : Hid (q = false → ∀ j, j < k + 1 → ¬ (gd bs j = gd out i ∧ Circ ws i j)) := fun hf j hj => by
                    by_cases e : j = k
                    · subst e; intro h; rw [hqc.2 h.2] at hf; cases hf
                    · exact hq.out rfl j (by omega)
                  replace hqc := Lib.hid hqc
                  replace hsw := Lib.hid hsw
                  rw [he] at ec0
                  replace he := Lib.hid he
                  go_wp2_with fail
                  go_region_held3 (fun w' => w'.cell? ⟨b0, o0 + k, none⟩ = some (.int .i64 (gd out i)) ∧ w'.cell? ⟨b2, o2 + i, none⟩ = some (.int .i64 (gd out i))) (first | go_keep | exact ⟨grown_cell hg7 ec0, grown_cell hg7 ec2⟩)
                    (first | (go_at_call 8; refine (hci.out wr.drew ⟨hg2.os, hg2.tape, hg2.output, hg2.size, hg2.block⟩).mono ?_; rintro e w7 ⟨rfl, hg7⟩))
                  all_goals
                    have hg8 : wr.grownBy w7 none := ⟨hg7.os, hg7.tape, hg7.output, hg7.size, hg7.block⟩
                    go_wp2_with fail
                    go_roundw
                    case rel => exact ⟨k + 1, by omega, by go_num, BoolIs.of _ hq', grown_trans hg2 hg8, hC2.out.keep hg8⟩
                    case measure => simp [intOf]; omega
                · have hb : (gd bs k == gd out i) = false := by rw [beq_eq_false_iff_ne]; exact he
                  have hq' : Hid (false = false → ∀ j, j < k + 1 → ¬ (gd bs j = gd out i ∧ Circ ws i j)) := fun _ j hj => by
                    by_cases e : j = k
                    · subst e; exact fun h => he h.1
                    · exact hq.out rfl j (by omega)
                  replace he := Lib.hid he
                  replace hsw := Lib.hid hsw
                  go_wp2_with fail
                  go_quiet (fail)
                  go_wp2_with fail
                  go_roundw
                  case rel => exact ⟨k + 1, by omega, by go_num, BoolIs.of _ (fun _ => hq'.out trivial), grown_drewN hg2 _, hC2.out.keep (grown_drewN (grown_refl _ _) _)⟩
                  case measure => simp [intOf]; omega
              · exfalso
                obtain ⟨kk, h1, h2⟩ := hmem.out
                exact hq.out rfl kk (by omega) h2
        · go_wp2_with fail
          go_quiet (fail)
          go_wp2_with fail
          go_quiet (fail)
          go_wp2_with fail
          go_loopw [8, 9] (fun s j wr => ∃ k : Nat, k ≤ m ∧ j = .int .i64 k ∧ BoolIs s (fun q => Hid (q = false → ∀ j, j < k → ¬ (gd bs j = gd out i ∧ Circ ws i j))) ∧ w.grownBy wr none ∧ Hid (Cut wr w.heap.size (some ⟨b2, o2, none⟩) out)) (fun _ j _ => m - (intOf j).toNat)
          case atStart => exact ⟨0, Nat.zero_le _, rfl, BoolIs.of _ (fun _ j hj => absurd hj (Nat.not_lt_zero _)), by first | exact hg | exact grown_drewN hg _ | exact grown_drewN (grown_drewN hg _) _, by first | exact hC.out | exact hC.out.keep (grown_drewN (grown_refl _ _) _) | exact hC.out.keep (grown_drewN (grown_drewN (grown_refl _ _) _) _)⟩
          case round =>
            obtain ⟨k, hk, rfl, ⟨q, rfl, hq⟩, hg2, hC2⟩ := hrel
            cases q with
            | true =>
              have hkc : ((k : Int) < (m : Int)) ∨ k = m := by omega
              rcases hkc with hkc | rfl
              all_goals
                go_wp2_with fail
                go_roundw
                case rel => exact ⟨i + 1, by omega, by go_num, hg2, hC2.out⟩
                case measure => simp [intOf]; omega
            | false =>
              by_cases hkm : k < m
              · have hkI : (k : Int) < (m : Int) := by omega
                have hk0 : (0 : Int) ≤ (k : Int) := Int.natCast_nonneg _
                have ec0 := (hK0.out _ hg2).cell (i := k) (by rw [hn.out]; exact hkm)
                have ec2 := hC2.out.sl.cell (i := i) (by rw [hol.out]; exact hlt)
                have hsw := hK1.out _ hg2
                by_cases he : gd bs k = gd out i
                · obtain ⟨q, hqc⟩ : ∃ q : Bool, q = true ↔ Circ ws i k := by classical exact ⟨decide (Circ ws i k), by simp⟩
                  have hci := Lib.hid (fun W (hg : w.grownBy W none) => circle_n (some ⟨b1, o1, none⟩) c1 0 w.heap.size m ws hm.out (by omega) (i : Int) (k : Int) q hqc W (hK1.out _ hg))
                  have hq' : Hid (q = false → ∀ j, j < k + 1 → ¬ (gd bs j = gd out i ∧ Circ ws i j)) := fun hf j hj => by
                    by_cases e : j = k
                    · subst e; intro h; rw [hqc.2 h.2] at hf; cases hf
                    · exact hq.out rfl j (by omega)
                  replace hqc := Lib.hid hqc
                  replace hsw := Lib.hid hsw
                  rw [he] at ec0
                  replace he := Lib.hid he
                  go_wp2_with fail
                  go_region_held3 (fun w' => w'.cell? ⟨b0, o0 + k, none⟩ = some (.int .i64 (gd out i)) ∧ w'.cell? ⟨b2, o2 + i, none⟩ = some (.int .i64 (gd out i))) (first | go_keep | exact ⟨grown_cell hg7 ec0, grown_cell hg7 ec2⟩)
                    (first | (go_at_call 8; refine (hci.out wr.drew ⟨hg2.os, hg2.tape, hg2.output, hg2.size, hg2.block⟩).mono ?_; rintro e w7 ⟨rfl, hg7⟩))
                  all_goals
                    have hg8 : wr.grownBy w7 none := ⟨hg7.os, hg7.tape, hg7.output, hg7.size, hg7.block⟩
                    go_wp2_with fail
                    go_roundw
                    case rel => exact ⟨k + 1, by omega, by go_num, BoolIs.of _ hq', grown_trans hg2 hg8, hC2.out.keep hg8⟩
                    case measure => simp [intOf]; omega
                · have hb : (gd bs k == gd out i) = false := by rw [beq_eq_false_iff_ne]; exact he
                  have hq' : Hid (false = false → ∀ j, j < k + 1 → ¬ (gd bs j = gd out i ∧ Circ ws i j)) := fun _ j hj => by
                    by_cases e : j = k
                    · subst e; exact fun h => he h.1
                    · exact hq.out rfl j (by omega)
                  replace he := Lib.hid he
                  replace hsw := Lib.hid hsw
                  go_wp2_with fail
                  go_quiet (fail)
                  go_wp2_with fail
                  go_roundw
                  case rel => exact ⟨k + 1, by omega, by go_num, BoolIs.of _ (fun _ => hq'.out trivial), grown_drewN hg2 _, hC2.out.keep (grown_drewN (grown_refl _ _) _)⟩
                  case measure => simp [intOf]; omega
              · exfalso
                obtain ⟨kk, h1, h2⟩ := hmem.out
                exact hq.out rfl kk (by omega) h2
      · obtain rfl : m = i := by omega
        clear hlt
        go_wp2_with fail
        refine (lives_any _).mono ?_; rintro e w2 ⟨rfl, hg2⟩
        go_wp2_with fail
        go_ret
        exact ⟨rfl, grown_trans hg hg2⟩
end Go.Proofs.Ytigghlnnhdoabaa
