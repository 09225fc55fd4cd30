/- Package rings: a row that goes round. -/
import Derived.Test.YtdbddfbdhgohbaaGreatDoorRing
namespace Go.Proofs.YtdbddfbdhgohbaaGreatDoor
open Go.RowKit Go.Shelf Tk
set_option linter.unusedVariables false
set_option linter.unusedSimpArgs false

/-- Where v is first; -1 if it is not there. -/
def Fst (v : Int) (xs : List Int) (r : Int) : Prop := (∃ j : Nat, r = j ∧ j < xs.length ∧ gd xs j = v ∧ ∀ i, i < j → gd xs i ≠ v) ∨ (r = -1 ∧ ∀ i, i < xs.length → gd xs i ≠ v)
theorem modc {f i m : Nat} (hf : f < m) (hi : i < m) : (f + i) % m = if f + i < m then f + i else f + i - m := by
  by_cases h : f + i < m
  · rw [if_pos h, Nat.mod_eq_of_lt h]
  · rw [if_neg h, Nat.mod_eq_sub_mod (by omega), Nat.mod_eq_of_lt (by omega)]
theorem mod_inj {f i j m : Nat} (hf : f < m) (hi : i < m) (hj : j < m) (h : (f + i) % m = (f + j) % m) : i = j := by
  rw [modc hf hi, modc hf hj] at h
  split at h <;> split at h <;> omega
section
variable {w : World} {B M m : Nat} {ns : List Int} {f : Nat} {c : Nat → Int}
theorem mod_place {f i m : Nat} (hm : 0 < m) : ∃ k : Nat, ((f : Int) + (i : Int)) % (m : Int) = k ∧ k = (f + i) % m ∧ k < m :=
  ⟨(f + i) % m, by push_cast; rfl, rfl, Nat.mod_lt _ hm⟩
/-- The cell of the j-th one. -/
theorem Rg.atj (h : Rg w B M m ns f c) {i : Nat} (hi : i < ns.length) : w.cell? ⟨M, (f + i) % m, none⟩ = some (.int .i64 (gd ns i)) := by
  rw [h.at (Nat.mod_lt _ h.m1), h.get i hi]
theorem Rg.at_ok (h : Rg w B M m ns f c) (i : Int) (k : Nat) (hi : 0 ≤ i ∧ i ≤ 1024) (hk : ((f : Int) + i) % (m : Int) = k) :
    Calls Tryz.prog 68 #[.pointer (some ⟨B, 0, none⟩), .int .i64 i] w fun e w' => e = .returned (.pointer (some ⟨M, k, none⟩)) ∧ ∃ n, w.drewN n = w' :=
  at_any B M m f k i hi h.fl h.mm hk w h.c0 h.c1
set_option maxRecDepth 100000 in
set_option maxHeartbeats 2000000 in
theorem find_any (v : Int) (h : Rg w B M m ns f c) :
    Calls Tryz.prog 89 #[.pointer (some ⟨B, 0, none⟩), .int .i64 v] w fun e w' => ∃ r, e = .returned (.int .i64 r) ∧ Fst v ns r ∧ ∃ n, w.drewN n = w' := by
  have hlm : ns.length ≤ 1024 := Nat.le_trans h.le h.mm
  have hc2 := h.c2
  have hm1 := h.m1
  go_enter Tryz.func89, Tryz.ntmps89
  go_wp2_with fail
  go_loopw [10] (fun i wr => ∃ k : Nat, k ≤ ns.length ∧ i = .int .i64 k ∧ Hid (∀ j, j < k → gd ns j ≠ v) ∧ Drawn w wr) (fun i _ => ns.length - (intOf i).toNat)
  case atStart => exact ⟨0, Nat.zero_le _, rfl, fun j hj => absurd hj (Nat.not_lt_zero _), Drawn.refl _⟩
  case round =>
    obtain ⟨k, hk, rfl, hno, nd, rfl⟩ := hrel
    by_cases hlt : k < ns.length
    · have hR := h.drewN nd
      obtain ⟨p, hp, hp2, hp3⟩ := mod_place (f := f) (i := k) (m := m) hm1
      replace hp := Lib.hid hp
      have hcj := h.atj hlt
      rw [← hp2] at hcj
      replace hp2 := Lib.hid hp2
      by_cases he : gd ns k = v
      · have hv : (gd ns k == v) = true := by rw [beq_iff_eq]; exact he
        replace he := Lib.hid he
        go_wp2_with fail
        refine (hR.at_ok k p (by omega) hp.out).mono ?_; rintro e w1 ⟨rfl, n1, rfl⟩
        go_wp2_with fail
        go_ret
        exact ⟨_, rfl, .inl ⟨k, rfl, hlt, he.out, hno.out⟩, nd + n1, rfl⟩
      · have hv : (gd ns k == v) = false := by rw [beq_eq_false_iff_ne]; exact he
        replace he := Lib.hid he
        go_wp2_with fail
        refine (hR.at_ok k p (by omega) hp.out).mono ?_; rintro e w1 ⟨rfl, n1, rfl⟩
        go_wp2_with fail
        go_roundw
        case rel => exact ⟨k + 1, by omega, by go_num, fun j hj => by
          by_cases e : j = k
          · subst e; exact he.out
          · exact hno.out j (by omega), nd + n1, rfl⟩
        case measure => simp [intOf] <;> omega
    · obtain rfl : k = ns.length := by omega
      go_wp2_with fail
      go_ret
      exact ⟨_, rfl, .inr ⟨rfl, hno.out⟩, nd, rfl⟩
theorem Rg.put_arr {w' : World} (h : Rg w B M m ns f c) (hlt : ns.length < m) (v : Int) {k : Nat} (hk : k = (f + ns.length) % m) (hH : Arr w' B 3 (rv M m f (ns.length + 1))) (hA : Arr w' M m (fun i => if i = k then .int .i64 v else .int .i64 (c i))) :
    Rg w' B M m (ns ++ [v]) f (fun i => if i = k then v else c i) := by
  refine ⟨by simpa using hH, hA.congr fun i _ => by by_cases e : i = k <;> simp [e], h.ne, h.fl, by simp; omega, h.mm, fun j hj => ?_⟩
  simp only [List.length_append, List.length_singleton] at hj
  by_cases e : j = ns.length
  · subst e; rw [if_pos hk.symm]; simp [gd]
  · have : ¬ (f + j) % m = k := by
      rw [hk]; intro h'
      exact e (mod_inj h.fl (by omega) hlt h')
    rw [if_neg this, h.get j (by omega)]
    unfold gd; rw [List.getElem?_append_left (by omega)]
set_option maxRecDepth 100000 in
set_option maxHeartbeats 2000000 in
theorem add_ok (v : Int) (hlt : ns.length < m) (h : Rg w B M m ns f c) :
    Calls Tryz.prog 86 #[.pointer (some ⟨B, 0, none⟩), .int .i64 v] w fun e w' => e = .returned (.tuple #[]) ∧ (∃ c', Rg w' B M m (ns ++ [v]) f c') ∧ Fr (BM B M) w w' := by
  have hlm : ns.length ≤ 1024 := Nat.le_trans h.le h.mm
  have hc2 := h.c2
  obtain ⟨p, hp, hp2, hp3⟩ := mod_place (f := f) (i := ns.length) (m := m) h.m1
  have hpc := h.at hp3
  have hpf := h.blk.frozen p
  have hf2 := h.hdr.frozen 2
  have hne := h.ne
  have hne2 : ¬ B = M := fun e => hne e.symm
  replace hp := Lib.hid hp
  replace hp2 := Lib.hid hp2
  go_enter Tryz.func86, Tryz.ntmps86
  go_wp2_with fail
  refine (h.at_ok ns.length p (by omega) hp.out).mono ?_; rintro e w1 ⟨rfl, n1, rfl⟩
  have hb1 := (h.drewN n1).blk.set hp3 (.int .i64 v)
  have hh1 := (h.drewN n1).hdr.kept (grownBy_setCell (w.drewN n1) M p (.int .i64 v)) (by simpa using hne)
  have hfr1 : Fr (BM B M) w ((w.drewN n1).setCell ⟨M, p, none⟩ (.int .i64 v)) := (fr_drewN _ w n1).setCell ⟨M, p, none⟩ (fun _ => .inr rfl) _
  obtain ⟨W, hW⟩ : ∃ W, (w.drewN n1).setCell ⟨M, p, none⟩ (.int .i64 v) = W := ⟨_, rfl⟩
  rw [hW] at hb1 hh1 hfr1
  have hw2 := hh1.cell (i := 2) (by decide)
  have hwf := hh1.frozen 2
  replace hw2 : W.cell? ⟨B, 2, none⟩ = some (.int .i64 ns.length) := hw2
  go_wp2_with fail
  refine bodyPost_end (results_none rfl _ _ _) rfl ?_
  have hH := (hh1.set (k := 2) (by decide) (.int .i64 ((ns.length : Int) + 1))).congr (g := rv M m f (ns.length + 1)) (fun i hi => by
    rcases (by omega : i = 0 ∨ i = 1 ∨ i = 2) with rfl | rfl | rfl <;> simp [rv])
  have hb2 := hb1.kept (grownBy_setCell W B 2 (.int .i64 ((ns.length : Int) + 1))) (by simpa using hne2)
  exact ⟨rfl, ⟨_, h.put_arr hlt v hp2.out hH hb2⟩, hfr1.setCell ⟨B, 2, none⟩ (fun _ => .inl rfl) _⟩
/-- One more, ahead. -/
theorem Rg.push {w' : World} (h : Rg w B M m ns f c) (hlt : ns.length < m) (v : Int) {k : Nat} (hk : k = (f + m - 1) % m) (hH : Arr w' B 3 (rv M m k (ns.length + 1))) (hA : Arr w' M m (fun i => if i = k then .int .i64 v else .int .i64 (c i))) :
    Rg w' B M m (v :: ns) k (fun i => if i = k then v else c i) := by
  have hm1 := h.m1
  have hkm : k < m := by rw [hk]; exact Nat.mod_lt _ hm1
  have hfl := h.fl
  have hkc : k = if f = 0 then m - 1 else f - 1 := by
    rw [hk]
    by_cases e : f = 0
    · rw [if_pos e, Nat.mod_eq_of_lt (by omega)]; omega
    · rw [if_neg e, Nat.mod_eq_sub_mod (by omega), Nat.mod_eq_of_lt (by omega)]; omega
  refine ⟨by simpa using hH, hA.congr fun i _ => by by_cases e : i = k <;> simp [e], h.ne, hkm, by simp; omega, h.mm, fun j hj => ?_⟩
  simp only [List.length_cons] at hj
  by_cases e : j = 0
  · subst e
    rw [Nat.add_zero, Nat.mod_eq_of_lt hkm, if_pos rfl]; rfl
  · obtain ⟨j, rfl⟩ : ∃ j', j = j' + 1 := ⟨j - 1, by omega⟩
    have h1 : (k + (j + 1)) % m = (f + j) % m := by
      rw [modc hkm (by omega), modc hfl (by omega), hkc]
      split <;> split <;> split <;> omega
    have h2 : ¬ (f + j) % m = k := by
      rw [← h1]; intro h'
      have h3 : (k + (j + 1)) % m = (k + 0) % m := by rw [h', Nat.add_zero, Nat.mod_eq_of_lt hkm]
      have := mod_inj hkm (by omega) (by omega) h3
      omega
    rw [h1, if_neg h2, h.get j (by omega)]
    rfl
set_option maxRecDepth 100000 in
set_option maxHeartbeats 4000000 in
theorem ahead_ok (v : Int) (hlt : ns.length < m) (h : Rg w B M m ns f c) :
    Calls Tryz.prog 92 #[.pointer (some ⟨B, 0, none⟩), .int .i64 v] w fun e w' => e = .returned (.tuple #[]) ∧ (∃ f' c', Rg w' B M m (v :: ns) f' c') ∧ Fr (BM B M) w w' := by
  have hlm : ns.length ≤ 1024 := Nat.le_trans h.le h.mm
  have hc0 := h.c0
  have hc1 := h.c1
  have hc2 := h.c2
  have hmm := h.mm
  have hfl := h.fl
  have hm1 := h.m1
  obtain ⟨p, hp, hp2, hp3⟩ : ∃ k : Nat, ((f : Int) + (m : Int) - 1) % (m : Int) = k ∧ k = (f + m - 1) % m ∧ k < m := ⟨(f + m - 1) % m, by
    rw [show (f : Int) + (m : Int) - 1 = ((f + m - 1 : Nat) : Int) by omega]; rfl, rfl, Nat.mod_lt _ hm1⟩
  have hp0 : ((p : Int) + 0) % (m : Int) = p := by rw [Int.add_zero]; exact Int.emod_eq_of_lt (by omega) (by omega)
  have hf1 := h.hdr.frozen 1
  have hf2 := h.hdr.frozen 2
  have hne := h.ne
  have hne2 : ¬ B = M := fun e => hne e.symm
  have hw1 : IntKind.i64.wrap ((f : Int) + (m : Int)) = (f : Int) + (m : Int) := by rw [IntKind.wrap_i64]; omega
  have hw2 : IntKind.i64.wrap ((f : Int) + (m : Int) - 1) = (f : Int) + (m : Int) - 1 := by rw [IntKind.wrap_i64]; omega
  have htm : ((f : Int) + (m : Int) - 1).tmod (m : Int) = (p : Int) := by rw [Int.tmod_eq_emod_of_nonneg (by omega)]; exact hp
  replace hp2 := Lib.hid hp2
  replace hp0 := Lib.hid hp0
  have hm0 : (0 : Int) < (m : Int) := by omega
  have hmz : ¬ m = 0 := by omega
  go_enter Tryz.func92, Tryz.ntmps92
  go_wp2_with fail
  go_still_tail 20, (by kernel_rfl)
  have hd : Rg w.drew B M m ns f c := h.keep ⟨rfl, rfl, rfl, Nat.le_refl _, fun _ _ _ => rfl⟩
  have hfr0 : Fr (BM B M) w w.drew := (Fr.refl _ w).drew
  change wpList _ _ _ _ _ w.drew
  generalize w.drew = W0 at *
  clear hc0 hc1 hc2 hf1 hf2
  have hc1 := hd.c1
  have hf1 := hd.hdr.frozen 1
  have hh1 := hd.hdr.set (k := 1) (by decide) (.int .i64 p)
  have hb1 := hd.blk.kept (grownBy_setCell W0 B 1 (.int .i64 p)) (by simpa using hne2)
  have hfr1 := hfr0.setCell ⟨B, 1, none⟩ (fun _ => .inl rfl) (.int .i64 p)
  obtain ⟨W1, hW1⟩ : ∃ W1, W0.setCell ⟨B, 1, none⟩ (.int .i64 p) = W1 := ⟨_, rfl⟩
  rw [hW1] at hh1 hb1 hfr1
  have k0 : W1.cell? ⟨B, 0, none⟩ = some (.slice (some ⟨M, 0, none⟩) m m) := hh1.cell (i := 0) (by decide)
  have k1 : W1.cell? ⟨B, 1, none⟩ = some (.int .i64 p) := hh1.cell (i := 1) (by decide)
  have hhx := hh1
  go_wp2_with fail
  refine (at_any B M m p p 0 (by decide) hp3 hmm hp0.out W1 k0 k1).mono ?_; rintro e w1 ⟨rfl, n1, rfl⟩
  have hpc : W1.cell? ⟨M, p, none⟩ = some (.int .i64 (c p)) := hb1.cell hp3
  have hpf := hb1.frozen p
  have hh2 := (Drawn.arr ⟨n1, rfl⟩ hh1).kept (grownBy_setCell (W1.drewN n1) M p (.int .i64 v)) (by simpa using hne)
  have hb2 := (Drawn.arr ⟨n1, rfl⟩ hb1).set (k := p) hp3 (.int .i64 v)
  have hfr2 := (hfr1.drewN n1).setCell ⟨M, p, none⟩ (fun _ => .inr rfl) (.int .i64 v)
  clear hW1 hc1 hf1 hd hfr0 hfr1 hh1 hb1
  obtain ⟨W, hW⟩ : ∃ W, (W1.drewN n1).setCell ⟨M, p, none⟩ (.int .i64 v) = W := ⟨_, rfl⟩
  rw [hW] at hb2 hh2 hfr2
  have hw2c : W.cell? ⟨B, 2, none⟩ = some (.int .i64 ns.length) := hh2.cell (i := 2) (by decide)
  have hwf := hh2.frozen 2
  go_wp2_with fail
  refine bodyPost_end (results_none rfl _ _ _) rfl ?_
  have hH := (hh2.set (k := 2) (by decide) (.int .i64 ((ns.length : Int) + 1))).congr (g := rv M m p (ns.length + 1)) (fun i hi => by
    rcases (by omega : i = 0 ∨ i = 1 ∨ i = 2) with rfl | rfl | rfl <;> simp [rv])
  have hb3 := hb2.kept (grownBy_setCell W B 2 (.int .i64 ((ns.length : Int) + 1))) (by simpa using hne2)
  exact ⟨rfl, ⟨_, _, h.push hlt v hp2.out hH hb3⟩, hfr2.setCell ⟨B, 2, none⟩ (fun _ => .inl rfl) _⟩
end
end Go.Proofs.YtdbddfbdhgohbaaGreatDoor
