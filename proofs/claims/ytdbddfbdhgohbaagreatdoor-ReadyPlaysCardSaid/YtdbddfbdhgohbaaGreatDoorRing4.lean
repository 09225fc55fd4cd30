/- Package rings: what is done with a ring. -/
import Derived.Test.YtdbddfbdhgohbaaGreatDoorRing3
namespace Go.Proofs.YtdbddfbdhgohbaaGreatDoor
open Go.RowKit Go.Shelf Tk
set_option linter.unusedVariables false
set_option linter.unusedSimpArgs false

section
variable {w : World} {B M m : Nat} {ns : List Int} {f : Nat} {c : Nat → Int}
/-- May a number be put? -/
theorem may_any (n : Int) (h : Rg w B M m ns f c) :
    Calls Tryz.prog 85 #[.pointer (some ⟨B, 0, none⟩), .int .i64 n] w fun e w' => (∃ nd, w.drewN nd = w') ∧
      ((e = .returned (.int .i64 1) ∧ n < 0) ∨ (e = .returned (.int .i64 7) ∧ 0 ≤ n ∧ n ∈ ns) ∨ (e = .returned (.int .i64 10) ∧ 0 ≤ n ∧ n ∉ ns ∧ ns.length = m) ∨ (e = .returned (.int .i64 0) ∧ 0 ≤ n ∧ n ∉ ns ∧ ns.length < m)) := by
  have hle := h.le
  by_cases hn : n < 0
  · have hd : decide (n < 0) = true := decide_eq_true hn
    go_enter Tryz.func85, Tryz.ntmps85
    go_wp2_with fail
    refine h.there.mono ?_; rintro e w' ⟨rfl, rfl⟩
    go_wp2_with fail
    go_ret
    exact ⟨⟨0, rfl⟩, .inl ⟨rfl, hn⟩⟩
  · have hd : decide (n < 0) = false := decide_eq_false hn
    have hmm := h.mm
    have hlm : ns.length ≤ 1024 := Nat.le_trans hle hmm
    replace hn := Lib.hid hn
    go_enter Tryz.func85, Tryz.ntmps85
    go_wp2_with fail
    refine h.there.mono ?_; rintro e w' ⟨rfl, rfl⟩
    go_wp2_with fail
    refine (find_any n h).mono ?_; rintro e w' ⟨r, rfl, hr, n1, rfl⟩
    rcases hr with ⟨j, rfl, hj, hg, -⟩ | ⟨rfl, hno⟩
    · have hmem : n ∈ ns := mem_iff_gd.2 ⟨j, hj, hg⟩
      replace hg := Lib.hid hg
      replace hmem := Lib.hid hmem
      go_wp2_with fail
      go_ret
      exact ⟨⟨n1, rfl⟩, .inr (.inl ⟨rfl, by have := hn.out; omega, hmem.out⟩)⟩
    · have hmem : n ∉ ns := fun hm => by obtain ⟨i, hi, hg⟩ := mem_iff_gd.1 hm; exact hno i hi hg
      replace hmem := Lib.hid hmem
      clear hno
      have h1 := h.drewN n1
      have hc0 := h1.c0
      have hc2 := h1.c2
      have hg1 : ∃ nd, w.drewN nd = w.drewN n1 := ⟨n1, rfl⟩
      obtain ⟨W, hW⟩ : ∃ W, w.drewN n1 = W := ⟨_, rfl⟩
      rw [hW] at h1 hc0 hc2 hg1 ⊢
      replace hg1 := Lib.hid hg1
      clear hW
      by_cases hf : ns.length = m
      · have hfb : ((ns.length : Int) == (m : Int)) = true := by rw [beq_iff_eq]; omega
        replace hf := Lib.hid hf
        go_wp2_with fail
        go_quiet (fail)
        go_wp2_with fail
        go_ret
        obtain ⟨nd, hnd⟩ := hg1.out
        exact ⟨⟨nd + nq, by rw [← hnd, World.drewN_drewN]⟩, .inr (.inr (.inl ⟨rfl, by have := hn.out; omega, hmem.out, hf.out⟩))⟩
      · have hfb : ((ns.length : Int) == (m : Int)) = false := by rw [beq_eq_false_iff_ne]; omega
        have hlt : ns.length < m := by omega
        replace hf := Lib.hid hf
        replace hlt := Lib.hid hlt
        go_wp2_with fail
        go_quiet (fail)
        go_wp2_with fail
        go_ret
        obtain ⟨nd, hnd⟩ := hg1.out
        exact ⟨⟨nd + nq, by rw [← hnd, World.drewN_drewN]⟩, .inr (.inr (.inr ⟨rfl, by have := hn.out; omega, hmem.out, hlt.out⟩))⟩
/-- What Put and Push answer. -/
def putRes (ns : List Int) (m : Nat) (n : Int) : Int := if n < 0 then 1 else if n ∈ ns then 7 else if ns.length = m then 10 else 0
theorem putRes_zero {ns : List Int} {m : Nat} {n : Int} (h0 : 0 ≤ n) (h1 : n ∉ ns) (h2 : ns.length < m) : putRes ns m n = 0 := by
  unfold putRes; rw [if_neg (by omega), if_neg h1, if_neg (by omega)]
theorem putRes_is {ns : List Int} {m : Nat} {n : Int} (h : putRes ns m n = 0) (hle : ns.length ≤ m) : 0 ≤ n ∧ n ∉ ns ∧ ns.length < m := by
  unfold putRes at h
  split at h
  · cases h
  · split at h
    · cases h
    · split at h
      · cases h
      · exact ⟨by omega, by assumption, by omega⟩
theorem may_res (n : Int) (h : Rg w B M m ns f c) : Calls Tryz.prog 85 #[.pointer (some ⟨B, 0, none⟩), .int .i64 n] w fun e w' => e = .returned (.int .i64 (putRes ns m n)) ∧ ∃ nd, w.drewN nd = w' := by
  refine (may_any n h).mono ?_
  rintro e w' ⟨hd, ⟨rfl, h1⟩ | ⟨rfl, h1, h2⟩ | ⟨rfl, h1, h2, h3⟩ | ⟨rfl, h1, h2, h3⟩⟩
  · exact ⟨by unfold putRes; rw [if_pos h1], hd⟩
  · exact ⟨by unfold putRes; rw [if_neg (by omega), if_pos h2], hd⟩
  · exact ⟨by unfold putRes; rw [if_neg (by omega), if_neg h2, if_pos h3], hd⟩
  · exact ⟨by rw [putRes_zero h1 h2 h3], hd⟩
theorem put_ok (n : Int) (hr : putRes ns m n = 0) (h : Rg w B M m ns f c) :
    Calls Tryz.prog 58 #[.pointer (some ⟨B, 0, none⟩), .int .i64 n] w fun e w' => e = .returned (.int .i64 0) ∧ (∃ f' c', Rg w' B M m (ns ++ [n]) f' c') ∧ Fr (BM B M) w w' := by
  have hmay := may_res n h
  obtain ⟨-, -, hlt⟩ := putRes_is hr h.le
  rw [hr] at hmay
  replace hmay := Lib.hid hmay
  replace hr := Lib.hid hr
  go_enter Tryz.func58, Tryz.ntmps58
  go_wp2_with fail
  refine hmay.out.mono ?_; rintro e w' ⟨rfl, nd, rfl⟩
  go_wp2_with fail
  refine (add_ok n hlt (h.drewN nd)).mono ?_; rintro e w1 ⟨rfl, ⟨c', hR⟩, hfr⟩
  go_wp2_with fail
  go_ret
  exact ⟨rfl, ⟨_, _, hR⟩, (fr_drewN _ w nd).trans hfr⟩
theorem push_ok (n : Int) (hr : putRes ns m n = 0) (h : Rg w B M m ns f c) :
    Calls Tryz.prog 63 #[.pointer (some ⟨B, 0, none⟩), .int .i64 n] w fun e w' => e = .returned (.int .i64 0) ∧ (∃ f' c', Rg w' B M m (n :: ns) f' c') ∧ Fr (BM B M) w w' := by
  have hmay := may_res n h
  obtain ⟨-, -, hlt⟩ := putRes_is hr h.le
  rw [hr] at hmay
  replace hmay := Lib.hid hmay
  replace hr := Lib.hid hr
  go_enter Tryz.func63, Tryz.ntmps63
  go_wp2_with fail
  refine hmay.out.mono ?_; rintro e w' ⟨rfl, nd, rfl⟩
  go_wp2_with fail
  refine (ahead_ok n hlt (h.drewN nd)).mono ?_; rintro e w1 ⟨rfl, hR, hfr⟩
  go_wp2_with fail
  go_ret
  exact ⟨rfl, hR, (fr_drewN _ w nd).trans hfr⟩
theorem put_no (p : Value) (n e : Int) (he : e ≠ 0) (w : World) (hr : Calls Tryz.prog 85 #[p, .int .i64 n] w fun x w' => x = .returned (.int .i64 e) ∧ ∃ nd, w.drewN nd = w') :
    Calls Tryz.prog 58 #[p, .int .i64 n] w fun x w' => x = .returned (.int .i64 e) ∧ ∃ nd, w.drewN nd = w' := by
  have he' : (e == 0) = false := by rw [beq_eq_false_iff_ne]; exact he
  replace he := Lib.hid he
  go_enter Tryz.func58, Tryz.ntmps58
  go_wp2_with fail
  refine hr.mono ?_; rintro x w' ⟨rfl, nd, rfl⟩
  clear hr
  go_wp2_with fail
  go_ret
  exact ⟨rfl, nd, rfl⟩
theorem push_no (p : Value) (n e : Int) (he : e ≠ 0) (w : World) (hr : Calls Tryz.prog 85 #[p, .int .i64 n] w fun x w' => x = .returned (.int .i64 e) ∧ ∃ nd, w.drewN nd = w') :
    Calls Tryz.prog 63 #[p, .int .i64 n] w fun x w' => x = .returned (.int .i64 e) ∧ ∃ nd, w.drewN nd = w' := by
  have he' : (e == 0) = false := by rw [beq_eq_false_iff_ne]; exact he
  replace he := Lib.hid he
  go_enter Tryz.func63, Tryz.ntmps63
  go_wp2_with fail
  refine hr.mono ?_; rintro x w' ⟨rfl, nd, rfl⟩
  clear hr
  go_wp2_with fail
  go_ret
  exact ⟨rfl, nd, rfl⟩
theorem take_empty (h : Rg w B M m [] f c) : Calls Tryz.prog 88 #[.pointer (some ⟨B, 0, none⟩)] w fun e w' => e = .returned (.tuple #[.int .i64 0, .int .i64 11]) ∧ w = w' := by
  have hc2 := h.c2
  replace hc2 : w.cell? ⟨B, 2, none⟩ = some (.int .i64 0) := hc2
  go_enter Tryz.func88, Tryz.ntmps88
  go_wp2_with fail
  refine h.there.mono ?_; rintro e w' ⟨rfl, rfl⟩
  go_wp2_with fail
  go_ret2
  exact ⟨rfl, rfl⟩
theorem take_ok {v : Int} {ms : List Int} (h : Rg w B M m (v :: ms) f c) : Calls Tryz.prog 88 #[.pointer (some ⟨B, 0, none⟩)] w fun e w' => e = .returned (.tuple #[.int .i64 v, .int .i64 0]) ∧ (∃ f' c', Rg w' B M m ms f' c') ∧ Fr (BM B M) w w' := by
  have hc2 := h.c2
  obtain ⟨n, hn⟩ : ∃ n, (v :: ms).length = n := ⟨_, rfl⟩
  rw [hn] at hc2
  have hn0 : ((n : Int) == 0) = false := by rw [beq_eq_false_iff_ne]; simp at hn; omega
  have hcut := Lib.hid (cut_ok 0 (by simp) h)
  replace hn := Lib.hid hn
  go_enter Tryz.func88, Tryz.ntmps88
  go_wp2_with fail
  refine h.there.mono ?_; rintro e w' ⟨rfl, rfl⟩
  go_wp2_with fail
  refine hcut.out.mono ?_; rintro e w1 ⟨rfl, hR, hfr⟩
  go_wp2_with fail
  go_ret2
  exact ⟨rfl, hR, hfr⟩
theorem remove_no (n : Int) (hno : n ∉ ns) (h : Rg w B M m ns f c) : Calls Tryz.prog 61 #[.pointer (some ⟨B, 0, none⟩), .int .i64 n] w fun e w' => e = .returned (.int .i64 1) ∧ ∃ nd, w.drewN nd = w' := by
  replace hno := Lib.hid hno
  go_enter Tryz.func61, Tryz.ntmps61
  go_wp2_with fail
  refine h.there.mono ?_; rintro e w' ⟨rfl, rfl⟩
  go_wp2_with fail
  refine (find_any n h).mono ?_; rintro e w' ⟨r, rfl, hr, n1, rfl⟩
  rcases hr with ⟨j, rfl, hj, hg, -⟩ | ⟨rfl, hno2⟩
  · exact absurd (mem_iff_gd.2 ⟨j, hj, hg⟩) hno.out
  · clear hno2
    go_wp2_with fail
    go_ret
    exact ⟨rfl, n1, rfl⟩
theorem remove_ok (n : Int) (hno : n ∈ ns) (h : Rg w B M m ns f c) : Calls Tryz.prog 61 #[.pointer (some ⟨B, 0, none⟩), .int .i64 n] w fun e w' => e = .returned (.int .i64 0) ∧
      (∃ j f' c', j < ns.length ∧ gd ns j = n ∧ (∀ i, i < j → gd ns i ≠ n) ∧ Rg w' B M m (ns.eraseIdx j) f' c') ∧ Fr (BM B M) w w' := by
  replace hno := Lib.hid hno
  go_enter Tryz.func61, Tryz.ntmps61
  go_wp2_with fail
  refine h.there.mono ?_; rintro e w' ⟨rfl, rfl⟩
  go_wp2_with fail
  refine (find_any n h).mono ?_; rintro e w' ⟨r, rfl, hr, n1, rfl⟩
  rcases hr with ⟨j, rfl, hj, hg, hmin⟩ | ⟨rfl, hno2⟩
  · replace hg := Lib.hid hg
    replace hmin := Lib.hid hmin
    go_wp2_with fail
    refine (cut_ok j hj (h.drewN n1)).mono ?_; rintro e w1 ⟨rfl, ⟨f', c', hR⟩, hfr⟩
    go_wp2_with fail
    go_ret
    exact ⟨rfl, ⟨j, f', c', hj, hg.out, hmin.out, hR⟩, (fr_drewN _ w n1).trans hfr⟩
  · obtain ⟨i, hi, hg⟩ := mem_iff_gd.1 hno.out
    exact absurd hg (hno2 i hi)
theorem turn_empty (h : Rg w B M m [] f c) : Calls Tryz.prog 60 #[.pointer (some ⟨B, 0, none⟩)] w fun e w' => e = .returned (.int .i64 11) ∧ w = w' := by
  go_enter Tryz.func60, Tryz.ntmps60
  go_wp2_with fail
  refine (take_empty h).mono ?_; rintro e w' ⟨rfl, rfl⟩
  go_wp2_with fail
  go_ret
  exact ⟨rfl, rfl⟩
theorem turn_ok {v : Int} {ms : List Int} (h : Rg w B M m (v :: ms) f c) : Calls Tryz.prog 60 #[.pointer (some ⟨B, 0, none⟩)] w fun e w' => e = .returned (.int .i64 0) ∧ (∃ f' c', Rg w' B M m (ms ++ [v]) f' c') ∧ Fr (BM B M) w w' := by
  have hle := h.le
  simp only [List.length_cons] at hle
  have hlt : ms.length < m := by omega
  go_enter Tryz.func60, Tryz.ntmps60
  go_wp2_with fail
  refine (take_ok h).mono ?_; rintro e w1 ⟨rfl, ⟨f1, c1, hR1⟩, hfr1⟩
  go_wp2_with fail
  refine (add_ok v hlt hR1).mono ?_; rintro e w2 ⟨rfl, ⟨c2, hR2⟩, hfr2⟩
  go_wp2_with fail
  go_ret
  exact ⟨rfl, ⟨_, _, hR2⟩, hfr1.trans hfr2⟩
end
end Go.Proofs.YtdbddfbdhgohbaaGreatDoor
