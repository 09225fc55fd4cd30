/- LaddersLists: what ladders tells is the reference's, in memory of its own. -/
import Derived.Test.YtabkkeeedlnmnaaDoorLadLM
import Derived.Test.YtabkkeeedlnmnaaDoorBkI7
namespace Go.Proofs.YtabkkeeedlnmnaaDoor
open Go.RowKit Go.Shelf Tk Tk.Lad
set_option linter.unusedVariables false
set_option linter.unusedSimpArgs false
/-- First and the reference's say the same. -/
theorem firsts (l : Nat) (hl : l < 4294967296) : ∃ (x : Int) (b : Bool), (∀ w, Calls Tryd.prog 9 #[.int .u32 l] w fun e w' => e = .returned (.tuple #[.int .i64 x, .bool b]) ∧ w = w') ∧
    (∀ w, Calls Tryd.prog 10 #[.int .u32 l] w fun e w' => e = .returned (.tuple #[.int .i64 x, .bool b]) ∧ w.grownBy w' none) := by
  by_cases h0 : l = 0
  · subst h0; exact ⟨0, false, first_zero, refFirst_zero⟩
  · exact ⟨l.log2, true, first_pos l h0 hl, refFirst_pos l h0 hl⟩
theorem same_eq {w wA wB : World} {baseA baseB : Nat} {u v : Value} {xs : List Int} (hu : Mine w baseA 3 .i64 u xs) (hv : Mine w baseB 3 .i64 v xs) (hm : xs.length ≤ 1000000) :
    Calls Tryd.prog 11 #[u, v] w fun e w' => e = .returned (.bool true) ∧ w.grownBy w' none := by
  obtain ⟨A, c, rfl, hc, -⟩ := hu.form
  obtain ⟨B, d, rfl, hd, -⟩ := hv.form
  exact (sameInts_any A B c d _ _ _ _ xs xs w hc hd hm hm hu.sl hv.sl).mono fun e w' ⟨he, n, hw⟩ => ⟨by rw [he, decide_eq_true rfl], by rw [← hw]; exact grown_drewN (grown_refl _ _) n⟩
theorem mine_block {w : World} {base : Nat} {v : Value} {xs : List Int} (h : Mine w base 3 .i64 v xs) : ∀ b, v.ownBlock = some b → base ≤ b ∧ b < w.heap.size := fun b hb => World.ownsRow.lt h b hb
set_option maxRecDepth 100000 in
set_option maxHeartbeats 2000000 in
theorem laddersLists_walk (a0 : Int) (w0 : (Lit.int .u32 a0).wf = true) (w : World) :
    Calls Tryd.prog 3 #[.int .u32 a0] w fun e w' => e = .returned (.bool true) ∧ w.grownBy w' none := by
  obtain ⟨h0, h1⟩ := wf_u32 w0
  obtain ⟨l, rfl⟩ := Int.eq_ofNat_of_zero_le h0
  have hl : l < 4294967296 := by omega
  clear w0 h0 h1
  have hlen : (ranksI l).length ≤ 1000 := by have := ranks_len l; simp [ranksI]; omega
  obtain ⟨x, b, hF, hG⟩ := firsts l hl
  replace hF := Lib.hid hF
  replace hG := Lib.hid hG
  replace hlen := Lib.hid hlen
  go_enter Tryd.func3, Tryd.ntmps3
  go_wp2_with fail
  refine (list_own l hl _).mono ?_; rintro e wa ⟨va, rfl, hMa, hga⟩
  obtain ⟨A1, c1, rfl, -⟩ := hMa.form
  go_wp2_with fail
  refine (list_own l hl _).mono ?_; rintro e wb ⟨vb, rfl, hMb, hgb⟩
  obtain ⟨A2, c2, rfl, -⟩ := hMb.form
  have hMa2 := Lib.hid (hMa.keep hgb)
  have hg2 := Lib.hid (grown_trans hga hgb)
  have hdis : Hid (∀ k, (Value.slice A1 (ranksI l).length c1).ownBlock = some k → k < wa.heap.size) := fun k hk => (mine_block hMa k hk).2
  replace hga := Lib.hid hga
  replace hMb := Lib.hid hMb
  clear hMa hgb
  go_wp2_with fail
  refine (hF.out _).mono ?_; rintro e w3 ⟨rfl, rfl⟩
  go_wp2_with fail
  refine (hG.out _).mono ?_; rintro e wc ⟨rfl, hgc⟩
  have hMa3 := Lib.hid (hMa2.out.keep hgc)
  have hMb3 := Lib.hid (hMb.out.keep hgc)
  have hg3 := Lib.hid (grown_trans hg2.out hgc)
  clear hgc
  go_wp2_with fail
  refine (refList_own l hl _).mono ?_; rintro e wd ⟨vr, rfl, hMr, hgd⟩
  have hMa4 := Lib.hid (hMa3.out.keep hgd)
  have hMb4 := Lib.hid (hMb3.out.keep hgd)
  have hg4 := Lib.hid (grown_trans hg3.out hgd)
  replace hMr := Lib.hid hMr
  clear hgd
  go_wp2_with fail
  refine (same_eq (wA := w) (wB := w) hMa4.out hMr.out (Nat.le_trans hlen.out (by decide))).mono ?_; rintro e we ⟨rfl, hge⟩
  have hMa5 := Lib.hid (hMa4.out.keep hge)
  have hMb5 := Lib.hid (hMb4.out.keep hge)
  have hg5 := Lib.hid (grown_trans hg4.out hge)
  clear hge
  go_wp2_with fail
  refine (same_eq (wA := w) (wB := w) hMb5.out hMa5.out (Nat.le_trans hlen.out (by decide))).mono ?_; rintro e wf ⟨rfl, hgf⟩
  have hMa6 := Lib.hid (hMa5.out.keep hgf)
  have hMb6 := Lib.hid (hMb5.out.keep hgf)
  have hg6 := Lib.hid (grown_trans hg5.out hgf)
  clear hgf
  have hx : (x != x) = false := by simp
  have hbb : (b != b) = false := by simp
  go_wp2_with fail
  have hsz : w.heap.size ≤ wf.heap.size := hg6.out.size
  have hb0 := BkInt.BkL.made (base := w.heap.size) wf #[.int .i64 0, .slice none 0 0, .slice none 0 0, .slice none 0 0, .slice none 0 0, .slice none 0 0, .slice none 0 0, .slice none 0 0, .slice none 0 0] 37 rfl (fun i hi => by
    rcases (by omega : i = 0 ∨ i = 1 ∨ i = 2 ∨ i = 3 ∨ i = 4 ∨ i = 5 ∨ i = 6 ∨ i = 7 ∨ i = 8) with rfl | rfl | rfl | rfl | rfl | rfl | rfl | rfl | rfl <;> rfl) hsz (fun _ => .slice none 0 0) (fun _ => .slice none 0 0) (fun _ => 0)
  have hgk := World.grownBy_alloc wf (.cells #[.int .i64 0, .slice none 0 0, .slice none 0 0, .slice none 0 0, .slice none 0 0, .slice none 0 0, .slice none 0 0, .slice none 0 0, .slice none 0 0] 37) none
  have hMa7 := Lib.hid (hMa6.out.keep hgk)
  have hMb7 := Lib.hid (hMb6.out.keep hgk)
  have hg7 := Lib.hid (grown_trans hg6.out hgk)
  have hla := mine_block hMa6.out
  have hlb := mine_block hMb6.out
  have hlb0 := mine_block hMb.out
  have hwa : w.heap.size ≤ wa.heap.size := hga.out.size
  have hap : Apart (.slice A2 (ranksI l).length c2) (.slice A1 (ranksI l).length c1) := by
    rcases hv : (Value.slice A2 (ranksI l).length c2).ownBlock with _ | k
    · exact .inl hv
    · right
      intro e
      have h1 := (hlb0 k hv).1
      have h2 := hdis.out k (by rw [← e, hv])
      omega
  have hnoB : ∀ v : Value, (∀ k, v.ownBlock = some k → k < wf.heap.size) → ∀ k, v.ownBlock = some k → ¬ BkInt.OwnB wf.heap.size (.slice none 0 0) k := by
    rintro v hv k hk (rfl | e)
    · exact absurd (hv _ hk) (by omega)
    · cases e
  have hszk : w.heap.size ≤ (wf.alloc (.cells #[.int .i64 0, .slice none 0 0, .slice none 0 0, .slice none 0 0, .slice none 0 0, .slice none 0 0, .slice none 0 0, .slice none 0 0, .slice none 0 0] 37)).heap.size := hg7.out.size
  refine (BkInt.ints_ok hb0 (by decide) (Lg.of_mine hMa7.out) (Nat.le_trans hlen.out (by decide)) (fun i hi => absurd hi (Nat.not_lt_zero _)) (hnoB _ (fun k hk => (hla k hk).2)) (fun k hk => (hla k hk).1) hszk).mono ?_
  rintro e w8 ⟨⟨y, rfl⟩, hP⟩
  obtain ⟨rv1, hb1, hf1, hn1⟩ := hP
  have hg8 := BkInt.grown_fr hg7.out hf1 (fun k hk => hb0.lo k (.inr hk))
  have hLb8 := (Lg.of_mine hMb7.out).fr hf1 (hnoB _ (fun k hk => (hlb k hk).2))
  have hb1' := Lib.hid hb1
  have hn1' := Lib.hid hn1
  have hg8' := Lib.hid hg8
  have hLb8' := Lib.hid hLb8
  have hap' := Lib.hid hap
  have hlb' := Lib.hid hlb
  have hnoB' := Lib.hid hnoB
  have hlb0' := Lib.hid hlb0
  clear hb0 hgk hla hlb hap hnoB hb1 hf1 hn1 hg8 hLb8 hlb0
  go_wp2_with fail
  refine (BkInt.ints_ok hb1'.out (by decide) hLb8'.out (Nat.le_trans hlen.out (by decide)) (fun i hi => by
    obtain rfl : i = 0 := by omega
    rw [BkInt.up_same]; exact hap'.out) (fun k hk hB => ?_) (fun k hk => Nat.le_trans hwa (hlb0'.out k hk).1) hg8'.out.size).mono ?_
  · rcases hn1'.out k hB with h | h
    · exact hnoB'.out _ (fun k hk => (hlb'.out k hk).2) k hk h
    · have := (hlb'.out k hk).2
      have h3 : wf.heap.size ≤ (wf.alloc (.cells #[.int .i64 0, .slice none 0 0, .slice none 0 0, .slice none 0 0, .slice none 0 0, .slice none 0 0, .slice none 0 0, .slice none 0 0, .slice none 0 0] 37)).heap.size := by simp
      omega
  rintro e w9 ⟨⟨y, rfl⟩, hP⟩
  obtain ⟨rv2, hb2, hf2, -⟩ := hP
  have hb2' := Lib.hid hb2
  have hg9 := Lib.hid (BkInt.grown_fr hg8'.out hf2 (fun k hk => hb1'.out.lo k (.inr hk)))
  clear hb2 hf2
  go_wp2_with fail
  refine (BkInt.apart_own hb2'.out (by decide)).mono ?_
  rintro e w10 ⟨rfl, hfA⟩
  have hg10 := Lib.hid (BkInt.grown_fr hg9.out hfA (fun k hk => hk))
  clear hfA
  go_wp2_with fail
  go_ret
  exact ⟨rfl, hg10.out⟩
end Go.Proofs.YtabkkeeedlnmnaaDoor
