/- timekeeperref16: Put where it may be. -/
import Derived.Test.YtiakbgdeanllnaaDoorWtRef2
namespace Go.Proofs.YtiakbgdeanllnaaDoor
open Go.RowKit Go.Shelf Tk
set_option linter.unusedVariables false
set_option linter.unusedSimpArgs false
namespace RefT
variable {w w' : World} {R : Nat} {v : Value} {ns : List (Int × Int)}
theorem slv_row {W : World} {g base c n : Nat} {ns : List (Int × Int)} (h : MineP W base (.slice (some ⟨g, 0, none⟩) n c) ns) (k : Nat) (hk : k ≤ n) (hn : ns.length = n) (hc : n ≤ c) : SlV W (some ⟨g, 0, none⟩) (fl (ns.take k)) ∧ SlV W (if c = k then some ⟨g, 0, none⟩ else some ⟨g, k * 2, none⟩) (fl (ns.drop k)) := by
  constructor
  · exact .inr ⟨_, rfl, fun q u hu => by
      exact World.ownsRow.cells h rfl q u (by
        rw [fl_take, List.getElem?_take] at hu
        split at hu
        · exact hu
        · cases hu)⟩
  · by_cases e : c = k
    · left
      have : ns.drop k = [] := List.drop_eq_nil_of_le (by omega)
      rw [this]; rfl
    · right
      refine ⟨_, if_neg e, fun q u hu => ?_⟩
      rw [fl_drop, List.getElem?_drop] at hu
      have := World.ownsRow.cells h rfl _ u hu
      have e1 : ((⟨g, 0, none⟩ : Addr).add (k * 2 + q)) = (⟨g, k * 2, none⟩ : Addr).add q := by
        unfold Addr.add
        by_cases hq : q = 0
        · subst hq
          by_cases hk : k * 2 + 0 = 0
          · rw [if_pos hk]; simp; omega
          · rw [if_neg hk]; simp
        · rw [if_neg hq, if_neg (by omega)]; simp
      rw [e1] at this
      exact this
theorem one_slv (W : World) (x r : Int) (T : TypeId) : SlV (W.alloc (.cells #[.int .i64 x, .int .i64 r] T)) (some ⟨W.heap.size, 0, none⟩) (fl [(x, r)]) :=
  .inr ⟨_, rfl, World.news_of_block (_root_.Go.heap_alloc_new W _)⟩
theorem redrew {a b : World} {r : Option Nat} (h : a.grownBy b r) : a.drew.grownBy b r := ⟨h.os, h.tape, h.output, h.size, h.block⟩
theorem ins_row {W : World} {base n k : Nat} {v : Value} {ns : List (Int × Int)} {x r : Int} (h : W.ownsRow base 65 2 v (0 + k + 1 + (n - k)) ([] ++ fl (ns.take k) ++ fl [(x, r)] ++ fl (ns.drop k))) (hpos : pos ns r = k) (hn : ns.length = n) (hk : k ≤ n) : MineP W base v (ins ns x r) := by
  unfold MineP ins
  rw [hpos]
  have e1 : (ns.take k ++ (x, r) :: ns.drop k).length = 0 + k + 1 + (n - k) := by simp; omega
  have e2 : fl (ns.take k ++ (x, r) :: ns.drop k) = [] ++ fl (ns.take k) ++ fl [(x, r)] ++ fl (ns.drop k) := by
    rw [fl_app]; simp [fl]
  rw [e1, e2]; exact h
theorem SlV.alloc {W : World} {A : Option Addr} {vs : List Value} (h : SlV W A vs) (hb : ∀ ad, A = some ad → ad.block < W.heap.size) (o : Obj) : SlV (W.alloc o) A vs := h.kept hb (World.grownBy_alloc W o none)
set_option maxRecDepth 100000 in
set_option maxHeartbeats 4000000 in
/-- The row is there. -/
theorem put_some (x r : Int) (h0 : 0 ≤ x) (hr0 : 0 ≤ r) (hr1 : r ≤ 31) (h : RQ w R v ns) (hl : ns.length ≤ 1000) (hno : ∀ i, i < ns.length → (gp ns i).1 ≠ x) (hv : v ≠ .slice none 0 0) :
    Calls Tryd.prog 12 #[.pointer (some ⟨R, 0, none⟩), .int .i64 x, .int .i64 r] w fun e w' => e = .returned (.int .i64 0) ∧ Post w R v (ins ns x r) w' := by
  obtain ⟨i0, hi0, hz0, hz1, hz2⟩ := info_parts infoOne
  have p1 : decide (x < 0) = false := decide_eq_false (by omega)
  have p2 : decide (r < 0) = false := decide_eq_false (by omega)
  have p3 : decide (31 < r) = false := decide_eq_false (by omega)
  have hat := Lib.hid (at_ok x h (by omega))
  obtain ⟨n, hn⟩ : ∃ n, ns.length = n := ⟨_, rfl⟩
  obtain ⟨g, c, rfl, hc, hcm, hcell⟩ : ∃ g c, v = .slice (some ⟨g, 0, none⟩) n c ∧ n ≤ c ∧ c ≤ maxLen ∧ ∀ i, i < n → w.cell? ⟨g, i * 2 + 1, none⟩ = some (.int .i64 (gp ns i).2) := by
    rcases h.open with ⟨h2, -⟩ | ⟨g, c, rfl, h1, h2, h3⟩
    · exact absurd h2 hv
    · exact ⟨g, c, by rw [hn], by omega, h2, fun i hi => (h3 i (by omega)).2⟩
  have hR := Lib.hid h
  have hglt := (h.row.lt g rfl).2
  rw [hn] at hl
  replace hcell := Lib.hid hcell
  replace hno := Lib.hid hno
  replace hn := Lib.hid hn
  have c0 := h.c0
  clear h h0 hr0 hr1 hv
  go_enter Tryd.func12, Tryd.ntmps12
  go_wp2_with fail
  refine hat.out.mono ?_; rintro e w1 ⟨q, rfl, hF, rfl⟩
  have hq : decide (0 ≤ q) = false := decide_eq_false (by
    rcases at_mem hF with ⟨-, j, -, h1, h2, -⟩ | h
    · exact absurd h2 (hno.out j h1)
    · omega)
  clear hF hat
  go_wp2_with fail
  go_loopw [7] (fun i wr => ∃ k : Nat, k ≤ n ∧ i = .int .i64 k ∧ Hid (∀ j, j < k → r ≤ (gp ns j).2) ∧ wr = w) (fun i _ => n - (intOf i).toNat)
  case atStart => exact ⟨0, Nat.zero_le _, rfl, fun j hj => absurd hj (Nat.not_lt_zero _), rfl⟩
  case round =>
    obtain ⟨k, hk, rfl, hyes, hww⟩ := hrel
    obtain rfl : w = wr := hww.symm
    by_cases hgo : k < n ∧ r ≤ (gp ns k).2
    · obtain ⟨hlt, hge⟩ := hgo
      have hkI : (k : Int) < (n : Int) := by omega
      have q1 := hcell.out k hlt
      have hyes' : Hid (∀ j, j < k + 1 → r ≤ (gp ns j).2) := fun j hj => by
        by_cases e : j = k
        · subst e; exact hge
        · exact hyes.out j (by omega)
      have d1 : decide (r ≤ (gp ns k).2) = true := decide_eq_true hge
      generalize (gp ns k).2 = y at *
      clear hge
      go_wp2_with fail
      go_roundw
      case rel => exact ⟨k + 1, by omega, by go_num, hyes', by first | rfl | trivial⟩
      case measure => exact meas n k hlt
    · have hpos : Hid (pos ns r = k) := pos_is (by rw [hn.out]; exact hk) hyes.out (fun h => by rw [hn.out] at h; have := fun e => hgo ⟨h, e⟩; omega)
      have hG0 : Hid (w.grownBy w.drew none) := grown_drewN (grown_refl _ _) 1
      have hwr : MineP w.drew 0 (.slice (some ⟨g, 0, none⟩) n c) ns := (hR.out.keep hG0.out).row
      obtain ⟨hs1, hs2⟩ := slv_row hwr k hk hn.out hc
      have hs1 := Lib.hid hs1
      have hs2 := Lib.hid hs2
      have c0d : w.drew.cell? ⟨R, 0, none⟩ = some (.slice (some ⟨g, 0, none⟩) n c) := c0
      have hl1 : Hid ((fl (ns.take k)).length = k * 2) := by show _ = _; rw [fl_len, List.length_take, hn.out]; omega
      have hl2 : Hid ((fl (ns.drop k)).length = (n - k) * 2) := by show _ = _; rw [fl_len, List.length_drop, hn.out]
      have hkc : k ≤ c := by omega
      have hb1 : (0 : Int) ≤ (k : Int) := Int.natCast_nonneg _
      have hb2 : (k : Int) ≤ (n : Int) := by omega
      have hb3 : (k : Int) ≤ (c : Int) := by omega
      have hcs : ¬ k < n ∨ (k < n ∧ ¬ r ≤ (gp ns k).2) := by
        by_cases e : k < n
        · right; exact ⟨e, fun h => hgo ⟨e, h⟩⟩
        · left; exact e
      clear hgo hwr
      have hgs : g < w.heap.size := hglt
      have hGb : Hid (w.grownBy (w.alloc (.cells #[.int .i64 x, .int .i64 r] 65)).drew none) := grown_drewN (World.grownBy_alloc w _ none) 1
      have hgd := redrew hGb.out
      have hg2 : Hid (∀ ad, (if c = k then some (⟨g, 0, none⟩ : Addr) else some ⟨g, k * 2, none⟩) = some ad → ad.block < w.drew.heap.size) := by
        intro ad had; split at had <;> cases had <;> exact hglt
      have hgb2 : Hid (∀ ad, (if c = k then some (⟨g, 0, none⟩ : Addr) else some ⟨g, k * 2, none⟩) = some ad → ad.block < (w.alloc (.cells #[.int .i64 x, .int .i64 r] 65)).drew.heap.size) := by
        intro ad had; split at had <;> cases had <;> exact Nat.lt_of_lt_of_le hglt hGb.out.size
      have hsb1 : Hid (SlV (w.alloc (.cells #[.int .i64 x, .int .i64 r] 65)).drew (some ⟨g, 0, none⟩) (fl (ns.take k))) := hs1.out.kept (by intro ad had; cases had; exact hglt) hgd
      have hsb2 : Hid (SlV (w.alloc (.cells #[.int .i64 x, .int .i64 r] 65)).drew (if c = k then some ⟨g, 0, none⟩ else some ⟨g, k * 2, none⟩) (fl (ns.drop k))) := hs2.out.kept hg2.out hgd
      have hob : Hid (SlV (w.alloc (.cells #[.int .i64 x, .int .i64 r] 65)).drew (some ⟨w.heap.size, 0, none⟩) (fl [(x, r)])) := one_slv w x r _
      have hWb : Hid (w.heap.size < (w.alloc (.cells #[.int .i64 x, .int .i64 r] 65)).drew.heap.size) := by
        show _ < (w.alloc _).heap.size; rw [World.size_alloc]; exact Nat.lt_succ_self _
      clear hgd
      have c0b : (w.alloc (.cells #[.int .i64 x, .int .i64 r] 65)).cell? ⟨R, 0, none⟩ = some (.slice (some ⟨g, 0, none⟩) n c) := (hR.out.keep hGb.out).c0
      rcases hcs with hd | ⟨hlt, hd⟩
      all_goals
        try have q1 := hcell.out k hlt
        try generalize (gp ns k).2 = y at *
        go_wp2_with fail
        go_region_law (first
          | (refine step_join rfl _ _ 57 rfl w.heap.size 65 i0 _ Tryd.underlying57 hi0 hz0 hz1 hz2 rfl (.slice none 0 0) 0 [] rfl (World.ownsRow_nil _ _ _ _) (some ⟨g, 0, none⟩) k c (fl (ns.take k)) rfl hl1.out hsb1.out (fl_one _) (by omega) hGb.out.size ?_; intro v1 w1 hown1 hg1; have hG1 := Lib.hid (grown_trans hGb.out hg1); have c01 : w1.cell? ⟨R, 0, none⟩ = some (.slice (some ⟨g, 0, none⟩) n c) := (hR.out.keep hG1.out).c0; have hone := Lib.hid (SlV.kept hob.out (by intro ad had; cases had; exact hWb.out) hg1); have hsB := Lib.hid (SlV.kept hsb2.out (hgb2.out) hg1); clear hg1)
          | (refine step_join rfl _ _ 57 rfl w.heap.size 65 i0 _ Tryd.underlying57 hi0 hz0 hz1 hz2 rfl (.slice none 0 0) 0 [] rfl (World.ownsRow_nil _ _ _ _) (some ⟨g, 0, none⟩) k c (fl (ns.take k)) rfl hl1.out hs1.out (fl_one _) (by omega) hG0.out.size ?_; intro v1 w1 hown1 hg1; have hG1 := Lib.hid (grown_trans hG0.out hg1); have c01 : w1.cell? ⟨R, 0, none⟩ = some (.slice (some ⟨g, 0, none⟩) n c) := (hR.out.keep hG1.out).c0; have hsB := Lib.hid (SlV.kept hs2.out (hg2.out) hg1); have c01a : (w1.alloc (.cells #[.int .i64 x, .int .i64 r] 65)).cell? ⟨R, 0, none⟩ = some (.slice (some ⟨g, 0, none⟩) n c) := (hR.out.keep (grown_alloc hG1.out _)).c0; clear hg1)
          | (refine step_join rfl _ _ 57 rfl w.heap.size 65 i0 _ Tryd.underlying57 hi0 hz0 hz1 hz2 rfl v1 (0 + k) ([] ++ fl (ns.take k)) rfl hown1 (some ⟨w.heap.size, 0, none⟩) 1 1 (fl [(x, r)]) rfl rfl hone.out (fl_one _) (by omega) hG1.out.size ?_; intro v2 w2 hown2 hg2'; have hG2 := Lib.hid (grown_row hG1.out hown1 hg2'); have c02 : w2.cell? ⟨R, 0, none⟩ = some (.slice (some ⟨g, 0, none⟩) n c) := (hR.out.keep hG2.out).c0; have hsC := Lib.hid (SlV.kept3 hsB.out (lo := w.heap.size) (by intro ad had; split at had <;> cases had <;> exact hglt) hG1.out.size hg2' (fun b hb => (World.ownsRow.lt hown1 b hb).1)); clear hg2')
          | (refine step_join rfl _ _ 57 rfl w.heap.size 65 i0 _ Tryd.underlying57 hi0 hz0 hz1 hz2 rfl v1 (0 + k) ([] ++ fl (ns.take k)) rfl (World.ownsRow.alloc hown1 _) (some ⟨w1.heap.size, 0, none⟩) 1 1 (fl [(x, r)]) rfl rfl (one_slv w1 x r _) (fl_one _) (by omega) (Nat.le_trans hG1.out.size (by simp)) ?_; intro v2 w2 hown2 hg2'; have hG2 := Lib.hid (grown_row (grown_alloc hG1.out _) (World.ownsRow.alloc hown1 _) hg2'); have c02 : w2.cell? ⟨R, 0, none⟩ = some (.slice (some ⟨g, 0, none⟩) n c) := (hR.out.keep hG2.out).c0; have hsC := Lib.hid (SlV.kept3 (hsB.out.alloc (by intro ad had; split at had <;> cases had <;> exact Nat.lt_of_lt_of_le hglt hG1.out.size) _) (lo := w.heap.size) (by intro ad had; split at had <;> cases had <;> exact hglt) (Nat.le_trans hG1.out.size (by simp)) hg2' (fun b hb => (World.ownsRow.lt hown1 b hb).1)); clear hg2')
          | (refine step_join rfl _ _ 57 rfl w.heap.size 65 i0 _ Tryd.underlying57 hi0 hz0 hz1 hz2 rfl v2 (0 + k + 1) ([] ++ fl (ns.take k) ++ fl [(x, r)]) rfl hown2 (if c = k then some ⟨g, 0, none⟩ else some ⟨g, k * 2, none⟩) (n - k) (c - k) (fl (ns.drop k)) rfl hl2.out hsC.out (fl_one _) (by omega) hG2.out.size ?_; intro v3 w3 hown3 hg3; have hM3 := ins_row hown3 hpos.out hn.out hk; obtain ⟨A3, L3, c3, e3⟩ := hM3.form2; obtain ⟨hu0, hf0, hP⟩ := fin hR.out hM3 (grown_row hG2.out hown2 hg3); subst e3; clear hM3 hown3 hg3))
        all_goals
          go_wp2_with fail
          all_goals
            go_ret
            exact ⟨rfl, hP⟩
end RefT
end Go.Proofs.YtiakbgdeanllnaaDoor
