/- Package rings: one goes. -/
import Derived.Test.YtdbddfbdhgohbaaGreatDoorRing2
namespace Go.Proofs.YtdbddfbdhgohbaaGreatDoor
open Go.RowKit Go.Shelf Tk
set_option linter.unusedVariables false
set_option linter.unusedSimpArgs false

section
variable {w : World} {B M m : Nat} {ns : List Int} {f : Nat} {c : Nat → Int}
/-- Behind some rounds: those from i on, as far as k, went on by one. -/
def Moved (ns : List Int) (m f k i : Nat) (c : Nat → Int) : Prop := ∀ j, j < ns.length → c ((f + j) % m) = if i < j ∧ j ≤ k then gd ns (j - 1) else gd ns j
theorem gd_erase {xs : List Int} {k j : Nat} : gd (xs.eraseIdx k) j = if j < k then gd xs j else gd xs (j + 1) := by
  unfold gd
  rw [List.getElem?_eraseIdx]
  split <;> rfl
theorem Rg.cutted {w' : World} {c' : Nat → Int} {k i : Nat} (h : Rg w B M m ns f c) (hk : k < ns.length) (hm : Moved ns m f k 0 c') (hi : i = (f + 1) % m) (hH : Arr w' B 3 (rv M m i (ns.length - 1))) (hA : Arr w' M m (fun i => .int .i64 (c' i))) :
    Rg w' B M m (ns.eraseIdx k) i c' := by
  have hle := h.le
  have hl : (ns.eraseIdx k).length = ns.length - 1 := by rw [List.length_eraseIdx, if_pos hk]
  refine ⟨by rw [hl]; exact hH, hA, h.ne, by rw [hi]; exact Nat.mod_lt _ h.m1, by omega, h.mm, fun j hj => ?_⟩
  rw [hl] at hj
  have e : (i + j) % m = (f + (j + 1)) % m := by
    rw [hi, Nat.mod_add_mod]; congr 1; omega
  rw [e, hm (j + 1) (by omega), gd_erase]
  by_cases h1 : j < k
  · rw [if_pos ⟨by omega, by omega⟩, if_pos h1]; rfl
  · rw [if_neg (by omega), if_neg h1]
set_option maxRecDepth 100000 in
set_option maxHeartbeats 8000000 in
theorem cut_ok (k : Nat) (hk : k < ns.length) (h : Rg w B M m ns f c) :
    Calls Tryz.prog 90 #[.pointer (some ⟨B, 0, none⟩), .int .i64 k] w fun e w' => e = .returned (.int .i64 (gd ns k)) ∧ (∃ f' c', Rg w' B M m (ns.eraseIdx k) f' c') ∧ Fr (BM B M) w w' := by
  have hlm : ns.length ≤ 1024 := Nat.le_trans h.le h.mm
  have hmm := h.mm
  have hle := h.le
  have hfl := h.fl
  have hm1 := h.m1
  have hne := h.ne
  have hne2 : ¬ B = M := fun e => hne e.symm
  obtain ⟨p, hp, hp2, hp3⟩ := mod_place (f := f) (i := k) (m := m) hm1
  have hcp := h.atj hk
  rw [← hp2] at hcp
  replace hp := Lib.hid hp
  replace hp2 := Lib.hid hp2
  have hk1024 : (k : Int) ≤ 1024 := by omega
  go_enter Tryz.func90, Tryz.ntmps90
  go_wp2_with fail
  refine (h.at_ok k p (by omega) hp.out).mono ?_; rintro e w1 ⟨rfl, n1, rfl⟩
  obtain ⟨x, hx⟩ : ∃ x, gd ns k = x := ⟨_, rfl⟩
  rw [hx] at hcp
  replace hx := Lib.hid hx
  go_wp2_with fail
  have hstart : Moved ns m f k k c := fun j hj => by rw [if_neg (by omega), h.get j hj]
  have hA0 := (h.drewN n1).blk
  have hH0 := (h.drewN n1).hdr
  have hfr0 : Fr (BM B M) w (w.drewN n1) := fr_drewN _ w n1
  obtain ⟨W0, hW0⟩ : ∃ W0, w.drewN n1 = W0 := ⟨_, rfl⟩
  rw [hW0] at hA0 hH0 hfr0 ⊢
  clear hW0 hcp
  go_loopw [6] (fun i wr => ∃ (q : Nat) (c' : Nat → Int), q ≤ k ∧ i = .int .i64 q ∧ Moved ns m f k q c' ∧ Arr wr B 3 (rv M m f ns.length) ∧ Arr wr M m (fun i => .int .i64 (c' i)) ∧ Fr (BM B M) w wr) (fun i _ => (intOf i).toNat)
  case atStart => exact ⟨k, c, Nat.le_refl _, rfl, hstart, hH0, hA0, hfr0⟩
  case round =>
    obtain ⟨q, c', hq, rfl, hmv, hH, hA, hfr⟩ := hrel
    replace hmv := Lib.hid hmv
    have a0 : wr.cell? ⟨B, 0, none⟩ = some (.slice (some ⟨M, 0, none⟩) m m) := hH.cell (i := 0) (by decide)
    have a1 : wr.cell? ⟨B, 1, none⟩ = some (.int .i64 f) := hH.cell (i := 1) (by decide)
    have a2 : wr.cell? ⟨B, 2, none⟩ = some (.int .i64 ns.length) := hH.cell (i := 2) (by decide)
    by_cases hq0 : 0 < q
    · obtain ⟨q, rfl⟩ : ∃ q', q = q' + 1 := ⟨q - 1, by omega⟩
      obtain ⟨r, hr, hr2, hr3⟩ := mod_place (f := f) (i := q + 1) (m := m) hm1
      obtain ⟨s, hs, hs2, hs3⟩ := mod_place (f := f) (i := q) (m := m) hm1
      have hcs : wr.cell? ⟨M, s, none⟩ = some (.int .i64 (gd ns q)) := by
        rw [hA.cell hs3, hs2, hmv.out q (by omega), if_neg (by omega)]
      have hcr : wr.cell? ⟨M, r, none⟩ = some (.int .i64 (c' r)) := hA.cell hr3
      have hfrz := hA.frozen r
      have hr' : ((f : Int) + ((q : Int) + 1)) % (m : Int) = r := by rw [← hr]; push_cast; rfl
      replace hr := Lib.hid hr'
      replace hs := Lib.hid hs
      clear hr'
      replace hr2 := Lib.hid hr2
      replace hs2 := Lib.hid hs2
      have hmv2 : Hid (Moved ns m f k q (fun i => if i = r then gd ns q else c' i)) := fun j hj => by
        by_cases e : j = q + 1
        · subst e
          show (if (f + (q + 1)) % m = r then _ else _) = _
          rw [if_pos hr2.out.symm, if_pos ⟨by omega, hq⟩]; rfl
        · have e2 : ¬ (f + j) % m = r := by
            rw [hr2.out]; intro e3
            exact e (mod_inj hfl (by omega) (by omega) e3)
          show (if (f + j) % m = r then _ else _) = _
          rw [if_neg e2, hmv.out j hj]
          have : (q + 1 < j ∧ j ≤ k) ↔ (q < j ∧ j ≤ k) := by omega
          simp only [this]
      generalize gd ns q = y at *
      have hqb : (q : Int) + 1 ≤ 1024 := by omega
      go_wp2_with fail
      refine (at_any B M m f r ((q : Int) + 1) (by omega) hfl hmm hr.out wr a0 a1).mono ?_; rintro e w1 ⟨rfl, n2, rfl⟩
      go_wp2_with fail
      refine (at_any B M m f s (q : Int) (by omega) hfl hmm hs.out (wr.drewN n2) a0 a1).mono ?_; rintro e w1 ⟨rfl, n3, rfl⟩
      go_wp2_with fail
      go_roundw
      case rel =>
        refine ⟨q, _, by omega, by go_num, hmv2.out, ?_, ?_, ?_⟩
        · exact (Drawn.arr ⟨n2 + n3, rfl⟩ hH).kept (grownBy_setCell _ M r (.int .i64 y)) (by simpa using hne)
        · exact ((Drawn.arr ⟨n2 + n3, rfl⟩ hA).set hr3 (.int .i64 y)).congr (fun i _ => by by_cases e : i = r <;> simp [e])
        · exact (hfr.drewN (n2 + n3)).setCell ⟨M, r, none⟩ (fun _ => .inr rfl) _
      case measure => simp [intOf]
    · obtain rfl : q = 0 := by omega
      obtain ⟨i, hi, hi2, hi3⟩ : ∃ i : Nat, ((f : Int) + 1) % (m : Int) = i ∧ i = (f + 1) % m ∧ i < m := ⟨(f + 1) % m, by push_cast; rfl, rfl, Nat.mod_lt _ hm1⟩
      have hw1 : IntKind.i64.wrap ((f : Int) + 1) = (f : Int) + 1 := by rw [IntKind.wrap_i64]; omega
      have htm : ((f : Int) + 1).tmod (m : Int) = (i : Int) := by rw [Int.tmod_eq_emod_of_nonneg (by omega)]; exact hi
      have hm0 : (0 : Int) < (m : Int) := by omega
      have hmz : ¬ m = 0 := by omega
      have hf1 := hH.frozen 1
      replace hi2 := Lib.hid hi2
      go_wp2_with fail
      go_still_tail 14, (by kernel_rfl)
      have hHd : Arr wr.drew B 3 (rv M m f ns.length) := hH
      have hAd : Arr wr.drew M m (fun i => .int .i64 (c' i)) := hA
      have hfrd := hfr.drew
      change wpList _ _ _ _ _ wr.drew
      generalize wr.drew = W1 at *
      clear a0 a1 a2 hf1 hH hA hfr
      have a1 : W1.cell? ⟨B, 1, none⟩ = some (.int .i64 f) := hHd.cell (i := 1) (by decide)
      have a2 : W1.cell? ⟨B, 2, none⟩ = some (.int .i64 ns.length) := hHd.cell (i := 2) (by decide)
      have f1 := hHd.frozen 1
      have f2 := hHd.frozen 2
      have hn1 : ((ns.length : Int) - 1) = ((ns.length - 1 : Nat) : Int) := by omega
      replace hn1 := Lib.hid hn1
      go_wp2_with fail
      go_ret
      have hH2 := ((hHd.set (k := 1) (by decide) (.int .i64 i)).set (k := 2) (by decide) (.int .i64 ((ns.length : Int) - 1))).congr (g := rv M m i (ns.length - 1)) (fun j hj => by
        rcases (by omega : j = 0 ∨ j = 1 ∨ j = 2) with rfl | rfl | rfl <;> simp [rv, hn1.out])
      have hA2 := (hAd.kept (grownBy_setCell W1 B 1 (.int .i64 i)) (by simpa using hne2)).kept (grownBy_setCell _ B 2 (.int .i64 ((ns.length : Int) - 1))) (by simpa using hne2)
      exact ⟨by simp [hx.out], ⟨_, _, h.cutted hk hmv.out hi2.out hH2 hA2⟩, (hfrd.setCell ⟨B, 1, none⟩ (fun _ => .inl rfl) _).setCell ⟨B, 2, none⟩ (fun _ => .inl rfl) _⟩
end
end Go.Proofs.YtdbddfbdhgohbaaGreatDoor
