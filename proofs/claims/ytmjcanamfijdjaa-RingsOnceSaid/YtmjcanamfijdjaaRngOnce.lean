/- RingsOnce. -/
import Derived.Test.YtmjcanamfijdjaaRngA
import Derived.Test.YtmjcanamfijdjaaRws
namespace Go.Proofs.Ytmjcanamfijdjaa
open Go.RowKit Go.Shelf Tk
set_option linter.unusedVariables false
set_option linter.unusedSimpArgs false

theorem six (r : Nat) : ((r : Int) % 6 == 0) = true ∨ (((r : Int) % 6 == 0) = false ∧ ((r : Int) % 6 == 1) = true) ∨ (((r : Int) % 6 == 0) = false ∧ ((r : Int) % 6 == 1) = false ∧ ((r : Int) % 6 == 2) = true) ∨
    (((r : Int) % 6 == 0) = false ∧ ((r : Int) % 6 == 1) = false ∧ ((r : Int) % 6 == 2) = false ∧ ((r : Int) % 6 == 3) = true) ∨
    (((r : Int) % 6 == 0) = false ∧ ((r : Int) % 6 == 1) = false ∧ ((r : Int) % 6 == 2) = false ∧ ((r : Int) % 6 == 3) = false ∧ ((r : Int) % 6 == 4) = true) ∨
    (((r : Int) % 6 == 0) = false ∧ ((r : Int) % 6 == 1) = false ∧ ((r : Int) % 6 == 2) = false ∧ ((r : Int) % 6 == 3) = false ∧ ((r : Int) % 6 == 4) = false) := by
  simp only [beq_iff_eq, beq_eq_false_iff_ne]; omega
/-- Numbers that may be, each once. -/
def Good (ns : List Int) : Prop := ns.Nodup ∧ ∀ x ∈ ns, 0 ≤ x
theorem Good.snoc {ns : List Int} {n : Int} (h : Good ns) (h0 : 0 ≤ n) (h1 : n ∉ ns) : Good (ns ++ [n]) := by
  refine ⟨?_, fun x hx => ?_⟩
  · rw [List.nodup_append]
    exact ⟨h.1, by simp, fun a ha b hb e => by simp at hb; subst hb; subst e; exact h1 ha⟩
  · rw [List.mem_append] at hx
    rcases hx with hx | hx
    · exact h.2 x hx
    · simp at hx; omega
theorem Good.cons {ns : List Int} {n : Int} (h : Good ns) (h0 : 0 ≤ n) (h1 : n ∉ ns) : Good (n :: ns) := by
  refine ⟨List.nodup_cons.2 ⟨h1, h.1⟩, fun x hx => ?_⟩
  rw [List.mem_cons] at hx
  rcases hx with hx | hx
  · omega
  · exact h.2 x hx
theorem Good.tail {ns : List Int} {n : Int} (h : Good (n :: ns)) : Good ns ∧ 0 ≤ n ∧ n ∉ ns :=
  ⟨⟨(List.nodup_cons.1 h.1).2, fun x hx => h.2 x (List.mem_cons_of_mem _ hx)⟩, h.2 n (by simp), (List.nodup_cons.1 h.1).1⟩
theorem Good.erase {ns : List Int} (h : Good ns) {j : Nat} (hj : j < ns.length) : Good (ns.eraseIdx j) ∧ gd ns j ∉ ns.eraseIdx j := by
  refine ⟨⟨List.Nodup.sublist (List.eraseIdx_sublist _ _) h.1, fun x hx => h.2 x (List.mem_of_mem_eraseIdx hx)⟩, fun hm => ?_⟩
  have hp := perm_eraseIdx ns j hj
  have hn : (ns[j] :: ns.eraseIdx j).Nodup := hp.nodup_iff.2 h.1
  rw [gd_lt hj] at hm
  exact (List.nodup_cons.1 hn).1 hm
section
variable {w : World} {B M m : Nat} {ns : List Int} {f : Nat} {c : Nat → Int}
theorem put_every (n : Int) (hG : Good ns) (h : Rg w B M m ns f c) :
    Calls Try.prog 10 #[.pointer (some ⟨B, 0, none⟩), .int .i64 n] w fun e w' => ∃ (x : Int) (ns' : List Int) (f' : Nat) (c' : Nat → Int), e = .returned (.int .i64 x) ∧ Rg w' B M m ns' f' c' ∧ Good ns' ∧ Fr (BM B M) w w' := by
  by_cases hr : putRes ns m n = 0
  · obtain ⟨h0, h1, -⟩ := putRes_is hr h.le
    refine (put_ok n hr h).mono ?_
    rintro e w' ⟨rfl, ⟨f', c', hR⟩, hfr⟩
    exact ⟨0, _, f', c', rfl, hR, hG.snoc h0 h1, hfr⟩
  · refine (put_res n _ hr rfl h).mono ?_
    rintro e w' ⟨rfl, nd, rfl⟩
    exact ⟨_, ns, f, c, rfl, h.drewN nd, hG, fr_drewN _ _ _⟩
theorem push_every (n : Int) (hG : Good ns) (h : Rg w B M m ns f c) :
    Calls Try.prog 11 #[.pointer (some ⟨B, 0, none⟩), .int .i64 n] w fun e w' => ∃ (x : Int) (ns' : List Int) (f' : Nat) (c' : Nat → Int), e = .returned (.int .i64 x) ∧ Rg w' B M m ns' f' c' ∧ Good ns' ∧ Fr (BM B M) w w' := by
  by_cases hr : putRes ns m n = 0
  · obtain ⟨h0, h1, -⟩ := putRes_is hr h.le
    refine (push_ok n hr h).mono ?_
    rintro e w' ⟨rfl, ⟨f', c', hR⟩, hfr⟩
    exact ⟨0, _, f', c', rfl, hR, hG.cons h0 h1, hfr⟩
  · refine (push_res n _ hr rfl h).mono ?_
    rintro e w' ⟨rfl, nd, rfl⟩
    exact ⟨_, ns, f, c, rfl, h.drewN nd, hG, fr_drewN _ _ _⟩
theorem take_every (hG : Good ns) (h : Rg w B M m ns f c) :
    Calls Try.prog 9 #[.pointer (some ⟨B, 0, none⟩)] w fun e w' => ∃ (x y : Int) (ns' : List Int) (f' : Nat) (c' : Nat → Int), e = .returned (.tuple #[.int .i64 x, .int .i64 y]) ∧ Rg w' B M m ns' f' c' ∧ Good ns' ∧ Fr (BM B M) w w' := by
  rcases ns with _ | ⟨v, ms⟩
  · refine (take_empty h).mono ?_
    rintro e w' ⟨rfl, rfl⟩
    exact ⟨0, 11, [], f, c, rfl, h, hG, Fr.refl _ _⟩
  · refine (take_ok h).mono ?_
    rintro e w' ⟨rfl, ⟨f', c', hR⟩, hfr⟩
    exact ⟨v, 0, ms, f', c', rfl, hR, hG.tail.1, hfr⟩
theorem turn_every (hG : Good ns) (h : Rg w B M m ns f c) :
    Calls Try.prog 13 #[.pointer (some ⟨B, 0, none⟩)] w fun e w' => ∃ (x : Int) (ns' : List Int) (f' : Nat) (c' : Nat → Int), e = .returned (.int .i64 x) ∧ Rg w' B M m ns' f' c' ∧ Good ns' ∧ Fr (BM B M) w w' := by
  rcases ns with _ | ⟨v, ms⟩
  · refine (turn_empty h).mono ?_
    rintro e w' ⟨rfl, rfl⟩
    exact ⟨11, [], f, c, rfl, h, hG, Fr.refl _ _⟩
  · refine (turn_ok h).mono ?_
    rintro e w' ⟨rfl, ⟨f', c', hR⟩, hfr⟩
    exact ⟨0, _, f', c', rfl, hR, hG.tail.1.snoc hG.tail.2.1 hG.tail.2.2, hfr⟩
end
def act2 (r n : Int) (i : Nat) : Value := if i = 0 then .int .u8 r else .int .i64 n
set_option maxRecDepth 100000 in
set_option maxHeartbeats 16000000 in
theorem ringsOnce_walk (m : Int) (wm : (Lit.int .u16 m).wf = true) (A0 : Option Addr) (c0 : Nat) (L : Nat) (R : Nat → Nat → Int) (hl0 : L ≤ c0) (w : World)
    (hs0 : RowsA w [.u8, .i64] A0 L R) (hf0 : ∀ i, i < L → ∀ q, q < [IntKind.u8, .i64].length → (Lit.int ([IntKind.u8, .i64].getD q .u8) (R i q)).wf = true) (hb0 : L * 16 ≤ 140737488351232) :
    Calls Try.prog 6 #[.int .u16 m, .slice A0 L c0] w fun e w' => e = .returned (.bool true) ∧ w.grownBy w' none := by
  have hfit : ∀ i, i < L → 0 ≤ R i 0 ∧ R i 0 < 256 := fun i hi => by
    have := hf0 i hi 0 (by decide)
    exact wf_u8 this
  replace hfit := Lib.hid hfit
  clear hf0
  by_cases hlen : 100 < L
  · have hd : decide ((100 : Int) < (L : Int)) = true := decide_eq_true (by omega)
    clear hlen
    go_enter Try.func6, Try.ntmps6
    go_wp2_with fail
    refine (alive_any _).mono ?_; rintro e wd ⟨rfl, hg⟩
    go_wp2_with fail
    refine (alive_any _).mono ?_; rintro e we ⟨rfl, hg2⟩
    go_wp2_with fail
    go_ret
    exact ⟨rfl, grown_trans hg hg2⟩
  · have hL : L ≤ 100 := by omega
    have hd : decide ((100 : Int) < (L : Int)) = false := decide_eq_false (by omega)
    clear hlen
    obtain ⟨m1, m2⟩ := wf_u16 wm
    clear wm
    obtain ⟨N, hN, hN1, hN2⟩ : ∃ N : Nat, (1 + m % 1024) = (N : Int) ∧ 1 ≤ N ∧ N ≤ 1024 := ⟨(m % 1024).toNat + 1, by omega, by omega, by omega⟩
    replace hN := Lib.hid hN
    have hK0 := Lib.hid (fun wr (h : w.grownBy wr none) => hs0.kept h)
    clear hs0
    go_enter Try.func6, Try.ntmps6
    go_wp2_with fail
    refine (alive_any _).mono ?_; rintro e wd ⟨rfl, hg⟩
    have hwd := hg.size
    go_wp2_with fail
    refine (new_ok N _ hN.out hN1 hN2 _).mono ?_; rintro e wa ⟨B, M, rfl, hR, hM, hB, hga⟩
    have hgw := grown_trans hg hga
    have hBw : w.heap.size ≤ B := Nat.le_trans hwd hB
    have hMw : w.heap.size ≤ M := Nat.le_trans hwd hM
    clear hg hga hM hB
    rw [hN.out]
    go_wp2_with fail
    go_loopw [8] (fun i wr => ∃ (k f : Nat) (c : Nat → Int) (ns : List Int), k ≤ L ∧ i = .int .i64 k ∧ Good ns ∧ Rg wr B M N ns f c ∧ w.grownBy wr none) (fun i _ => L - (intOf i).toNat)
    case atStart => exact ⟨0, _, _, [], Nat.zero_le _, rfl, ⟨List.nodup_nil, fun x hx => by simp at hx⟩, hR, hgw⟩
    case round =>
      obtain ⟨k, f, c, ns, hk, rfl, hG, hR, hg⟩ := hrel
      by_cases hlt : k < L
      · obtain ⟨b, o, rfl, hb, hcs⟩ := (hK0.out _ hg).at hlt
        have hc0 := hcs 0 (by decide)
        have hc1 := hcs 1 (by decide)
        obtain ⟨r1, r2⟩ := hfit.out k hlt
        generalize R k 0 = r at *
        generalize R k 1 = n at *
        obtain ⟨r, rfl⟩ := Int.eq_ofNat_of_zero_le r1
        have hr := six r
        clear r1 hcs
        simp only [List.length_cons, List.length_nil, Nat.reduceAdd, Nat.add_zero, List.getD_cons_zero, List.getD_cons_succ] at hc0 hc1
        have hgA := World.grownBy_alloc wr (.cells #[.int .u8 (r : Int), .int .i64 n] 47) none
        have hX := Arr.new wr #[.int .u8 (r : Int), .int .i64 n] 47 2 (act2 r n) rfl (fun i hi => by
          rcases (by omega : i = 0 ∨ i = 1) with rfl | rfl <;> rfl)
        have hR1 := hR.keep hgA
        have hg1 := grown_trans hg hgA
        have hBr := hR.hdr.lt
        have hMr := hR.blk.lt
        replace hG := Lib.hid hG
        rcases hr with d0 | ⟨d0, d1⟩ | ⟨d0, d1, d2⟩ | ⟨d0, d1, d2, d3⟩ | ⟨d0, d1, d2, d3, d4⟩ | ⟨d0, d1, d2, d3, d4⟩
        · go_wp2_with fail
          refine (put_every _ hG.out hR1).mono ?_; rintro e w3 ⟨x, ns3, f3, c3, rfl, hR3, hG3, g3⟩
          have hg3 := fr_step hg1 g3 hBw hMw
          replace hG3 := Lib.hid hG3
          obtain ⟨Q, hQ⟩ : ∃ Q, ns3.length = Q := ⟨_, rfl⟩
          have hQN : Q ≤ N := by rw [← hQ]; exact hR3.le
          replace hQ := Lib.hid hQ
          have hnQ : ¬ N < Q := by omega
          have hQ1024 : Q ≤ 1024 := by omega
          replace hQN := Lib.hid hQN
          clear g3 hg1 hR1 hX hgA hg hR
          go_wp2_with fail
          refine (list_n Q hQ.out hR3).mono ?_; rintro e w5 ⟨A5, k5, rfl, hk5, hM5, g5⟩
          have hR5 := hR3.keep g5
          have hg5 := grown_trans hg3 g5
          have hs5 := hM5.sl
          clear g5 hM5 hR3 hg3
          go_wp2_with fail
          go_loopw [11, 12] (fun a _ wr5 => ∃ q : Nat, q ≤ Q ∧ a = .int .i64 q ∧ Drawn w5 wr5) (fun a _ _ => Q - (intOf a).toNat)
          case atStart => exact ⟨0, Nat.zero_le _, rfl, Drawn.refl _⟩
          case round =>
            obtain ⟨q, hq, rfl, hdr⟩ := hrel
            by_cases hqQ : q < Q
            · have hql : q < ns3.length := by rw [hQ.out]; exact hqQ
              have hqI : (q : Int) < (Q : Int) := by omega
              have hq0 : (0 : Int) ≤ (q : Int) := Int.natCast_nonneg _
              obtain ⟨b5, o5, rfl, -⟩ := (hdr.sl hs5).at hql
              have hmem := Lib.hid (gd_mem hql)
              have hpos : 0 ≤ gd ns3 q := hG3.out.2 _ (gd_mem hql)
              clear hql
              go_wp2_with fail
              go_loopw [12] (fun z wr6 => ∃ p : Nat, p ≤ q ∧ z = .int .i64 p ∧ Drawn w5 wr6) (fun z _ => q - (intOf z).toNat)
              case atStart => exact ⟨0, Nat.zero_le _, rfl, hdr⟩
              case round =>
                obtain ⟨p, hp, rfl, hdr2⟩ := hrel
                by_cases hpq : p < q
                · have hcq := (hdr2.sl hs5).cell (i := q) (by rw [hQ.out]; exact hqQ)
                  have hcp := (hdr2.sl hs5).cell (i := p) (by rw [hQ.out]; omega)
                  have hne : (gd ns3 q == gd ns3 p) = false := by
                    rw [beq_eq_false_iff_ne, gd_lt (by rw [hQ.out]; exact hqQ), gd_lt (by rw [hQ.out]; omega)]
                    intro e
                    have := (List.getElem_inj hG3.out.1).1 e
                    omega
                  have hp0 : (0 : Int) ≤ (p : Int) := Int.natCast_nonneg _
                  have hpI : (p : Int) < (Q : Int) := by omega
                  go_wp2_with fail
                  go_quiet (fail)
                  go_wp2_with fail
                  go_roundw
                  case rel => exact ⟨p + 1, by omega, by go_num, hdr2.step _⟩
                  case measure => simp [intOf] <;> omega
                · have hcq := (hdr2.sl hs5).cell (i := q) (by rw [hQ.out]; exact hqQ)
                  have hr7 : Hid (putRes ns3 N (gd ns3 q) = 7) := by show _ = _; unfold putRes; rw [if_neg (by omega), if_pos hmem.out]
                  have hnl : decide (gd ns3 q < 0) = false := decide_eq_false (by omega)
                  obtain ⟨nd, rfl⟩ := hdr2
                  have hcq0 := hs5.cell (i := q) (by rw [hQ.out]; exact hqQ)
                  have hR6 := hR5.drewN nd
                  go_wp2_with fail
                  refine (put_res _ 7 (by decide) hr7.out hR6).mono ?_; rintro e w7 ⟨rfl, n7, rfl⟩
                  go_wp2_with fail
                  refine (push_res _ 7 (by decide) hr7.out (hR5.drewN (nd + n7))).mono ?_; rintro e w8 ⟨rfl, n8, rfl⟩
                  go_wp2_with fail
                  go_roundw
                  case rel => exact ⟨q + 1, by omega, by go_num, nd + n7 + n8, rfl⟩
                  case measure => simp [intOf] <;> omega
            · obtain ⟨nd, rfl⟩ := hdr
              go_wp2_with fail
              go_roundw
              case rel => exact ⟨k + 1, _, _, ns3, by omega, by go_num, hG3.out, hR5.drewN nd, grown_drewN hg5 nd⟩
              case measure => simp [intOf] <;> omega
        · go_wp2_with fail
          refine (put_every _ hG.out hR1).mono ?_; rintro e w3 ⟨x, ns3, f3, c3, rfl, hR3, hG3, g3⟩
          have hg3 := fr_step hg1 g3 hBw hMw
          replace hG3 := Lib.hid hG3
          obtain ⟨Q, hQ⟩ : ∃ Q, ns3.length = Q := ⟨_, rfl⟩
          have hQN : Q ≤ N := by rw [← hQ]; exact hR3.le
          replace hQ := Lib.hid hQ
          have hnQ : ¬ N < Q := by omega
          have hQ1024 : Q ≤ 1024 := by omega
          replace hQN := Lib.hid hQN
          clear g3 hg1 hR1 hX hgA hg hR
          go_wp2_with fail
          refine (list_n Q hQ.out hR3).mono ?_; rintro e w5 ⟨A5, k5, rfl, hk5, hM5, g5⟩
          have hR5 := hR3.keep g5
          have hg5 := grown_trans hg3 g5
          have hs5 := hM5.sl
          clear g5 hM5 hR3 hg3
          go_wp2_with fail
          go_loopw [11, 12] (fun a _ wr5 => ∃ q : Nat, q ≤ Q ∧ a = .int .i64 q ∧ Drawn w5 wr5) (fun a _ _ => Q - (intOf a).toNat)
          case atStart => exact ⟨0, Nat.zero_le _, rfl, Drawn.refl _⟩
          case round =>
            obtain ⟨q, hq, rfl, hdr⟩ := hrel
            by_cases hqQ : q < Q
            · have hql : q < ns3.length := by rw [hQ.out]; exact hqQ
              have hqI : (q : Int) < (Q : Int) := by omega
              have hq0 : (0 : Int) ≤ (q : Int) := Int.natCast_nonneg _
              obtain ⟨b5, o5, rfl, -⟩ := (hdr.sl hs5).at hql
              have hmem := Lib.hid (gd_mem hql)
              have hpos : 0 ≤ gd ns3 q := hG3.out.2 _ (gd_mem hql)
              clear hql
              go_wp2_with fail
              go_loopw [12] (fun z wr6 => ∃ p : Nat, p ≤ q ∧ z = .int .i64 p ∧ Drawn w5 wr6) (fun z _ => q - (intOf z).toNat)
              case atStart => exact ⟨0, Nat.zero_le _, rfl, hdr⟩
              case round =>
                obtain ⟨p, hp, rfl, hdr2⟩ := hrel
                by_cases hpq : p < q
                · have hcq := (hdr2.sl hs5).cell (i := q) (by rw [hQ.out]; exact hqQ)
                  have hcp := (hdr2.sl hs5).cell (i := p) (by rw [hQ.out]; omega)
                  have hne : (gd ns3 q == gd ns3 p) = false := by
                    rw [beq_eq_false_iff_ne, gd_lt (by rw [hQ.out]; exact hqQ), gd_lt (by rw [hQ.out]; omega)]
                    intro e
                    have := (List.getElem_inj hG3.out.1).1 e
                    omega
                  have hp0 : (0 : Int) ≤ (p : Int) := Int.natCast_nonneg _
                  have hpI : (p : Int) < (Q : Int) := by omega
                  go_wp2_with fail
                  go_quiet (fail)
                  go_wp2_with fail
                  go_roundw
                  case rel => exact ⟨p + 1, by omega, by go_num, hdr2.step _⟩
                  case measure => simp [intOf] <;> omega
                · have hcq := (hdr2.sl hs5).cell (i := q) (by rw [hQ.out]; exact hqQ)
                  have hr7 : Hid (putRes ns3 N (gd ns3 q) = 7) := by show _ = _; unfold putRes; rw [if_neg (by omega), if_pos hmem.out]
                  have hnl : decide (gd ns3 q < 0) = false := decide_eq_false (by omega)
                  obtain ⟨nd, rfl⟩ := hdr2
                  have hcq0 := hs5.cell (i := q) (by rw [hQ.out]; exact hqQ)
                  have hR6 := hR5.drewN nd
                  go_wp2_with fail
                  refine (put_res _ 7 (by decide) hr7.out hR6).mono ?_; rintro e w7 ⟨rfl, n7, rfl⟩
                  go_wp2_with fail
                  refine (push_res _ 7 (by decide) hr7.out (hR5.drewN (nd + n7))).mono ?_; rintro e w8 ⟨rfl, n8, rfl⟩
                  go_wp2_with fail
                  go_roundw
                  case rel => exact ⟨q + 1, by omega, by go_num, nd + n7 + n8, rfl⟩
                  case measure => simp [intOf] <;> omega
            · obtain ⟨nd, rfl⟩ := hdr
              go_wp2_with fail
              go_roundw
              case rel => exact ⟨k + 1, _, _, ns3, by omega, by go_num, hG3.out, hR5.drewN nd, grown_drewN hg5 nd⟩
              case measure => simp [intOf] <;> omega
        · go_wp2_with fail
          refine (push_every _ hG.out hR1).mono ?_; rintro e w3 ⟨x, ns3, f3, c3, rfl, hR3, hG3, g3⟩
          have hg3 := fr_step hg1 g3 hBw hMw
          replace hG3 := Lib.hid hG3
          obtain ⟨Q, hQ⟩ : ∃ Q, ns3.length = Q := ⟨_, rfl⟩
          have hQN : Q ≤ N := by rw [← hQ]; exact hR3.le
          replace hQ := Lib.hid hQ
          have hnQ : ¬ N < Q := by omega
          have hQ1024 : Q ≤ 1024 := by omega
          replace hQN := Lib.hid hQN
          clear g3 hg1 hR1 hX hgA hg hR
          go_wp2_with fail
          refine (list_n Q hQ.out hR3).mono ?_; rintro e w5 ⟨A5, k5, rfl, hk5, hM5, g5⟩
          have hR5 := hR3.keep g5
          have hg5 := grown_trans hg3 g5
          have hs5 := hM5.sl
          clear g5 hM5 hR3 hg3
          go_wp2_with fail
          go_loopw [11, 12] (fun a _ wr5 => ∃ q : Nat, q ≤ Q ∧ a = .int .i64 q ∧ Drawn w5 wr5) (fun a _ _ => Q - (intOf a).toNat)
          case atStart => exact ⟨0, Nat.zero_le _, rfl, Drawn.refl _⟩
          case round =>
            obtain ⟨q, hq, rfl, hdr⟩ := hrel
            by_cases hqQ : q < Q
            · have hql : q < ns3.length := by rw [hQ.out]; exact hqQ
              have hqI : (q : Int) < (Q : Int) := by omega
              have hq0 : (0 : Int) ≤ (q : Int) := Int.natCast_nonneg _
              obtain ⟨b5, o5, rfl, -⟩ := (hdr.sl hs5).at hql
              have hmem := Lib.hid (gd_mem hql)
              have hpos : 0 ≤ gd ns3 q := hG3.out.2 _ (gd_mem hql)
              clear hql
              go_wp2_with fail
              go_loopw [12] (fun z wr6 => ∃ p : Nat, p ≤ q ∧ z = .int .i64 p ∧ Drawn w5 wr6) (fun z _ => q - (intOf z).toNat)
              case atStart => exact ⟨0, Nat.zero_le _, rfl, hdr⟩
              case round =>
                obtain ⟨p, hp, rfl, hdr2⟩ := hrel
                by_cases hpq : p < q
                · have hcq := (hdr2.sl hs5).cell (i := q) (by rw [hQ.out]; exact hqQ)
                  have hcp := (hdr2.sl hs5).cell (i := p) (by rw [hQ.out]; omega)
                  have hne : (gd ns3 q == gd ns3 p) = false := by
                    rw [beq_eq_false_iff_ne, gd_lt (by rw [hQ.out]; exact hqQ), gd_lt (by rw [hQ.out]; omega)]
                    intro e
                    have := (List.getElem_inj hG3.out.1).1 e
                    omega
                  have hp0 : (0 : Int) ≤ (p : Int) := Int.natCast_nonneg _
                  have hpI : (p : Int) < (Q : Int) := by omega
                  go_wp2_with fail
                  go_quiet (fail)
                  go_wp2_with fail
                  go_roundw
                  case rel => exact ⟨p + 1, by omega, by go_num, hdr2.step _⟩
                  case measure => simp [intOf] <;> omega
                · have hcq := (hdr2.sl hs5).cell (i := q) (by rw [hQ.out]; exact hqQ)
                  have hr7 : Hid (putRes ns3 N (gd ns3 q) = 7) := by show _ = _; unfold putRes; rw [if_neg (by omega), if_pos hmem.out]
                  have hnl : decide (gd ns3 q < 0) = false := decide_eq_false (by omega)
                  obtain ⟨nd, rfl⟩ := hdr2
                  have hcq0 := hs5.cell (i := q) (by rw [hQ.out]; exact hqQ)
                  have hR6 := hR5.drewN nd
                  go_wp2_with fail
                  refine (put_res _ 7 (by decide) hr7.out hR6).mono ?_; rintro e w7 ⟨rfl, n7, rfl⟩
                  go_wp2_with fail
                  refine (push_res _ 7 (by decide) hr7.out (hR5.drewN (nd + n7))).mono ?_; rintro e w8 ⟨rfl, n8, rfl⟩
                  go_wp2_with fail
                  go_roundw
                  case rel => exact ⟨q + 1, by omega, by go_num, nd + n7 + n8, rfl⟩
                  case measure => simp [intOf] <;> omega
            · obtain ⟨nd, rfl⟩ := hdr
              go_wp2_with fail
              go_roundw
              case rel => exact ⟨k + 1, _, _, ns3, by omega, by go_num, hG3.out, hR5.drewN nd, grown_drewN hg5 nd⟩
              case measure => simp [intOf] <;> omega
        · go_wp2_with fail
          refine (take_every hG.out hR1).mono ?_; rintro e w3 ⟨x, y, ns3, f3, c3, rfl, hR3, hG3, g3⟩
          have hg3 := fr_step hg1 g3 hBw hMw
          replace hG3 := Lib.hid hG3
          obtain ⟨Q, hQ⟩ : ∃ Q, ns3.length = Q := ⟨_, rfl⟩
          have hQN : Q ≤ N := by rw [← hQ]; exact hR3.le
          replace hQ := Lib.hid hQ
          have hnQ : ¬ N < Q := by omega
          have hQ1024 : Q ≤ 1024 := by omega
          replace hQN := Lib.hid hQN
          clear g3 hg1 hR1 hX hgA hg hR
          go_wp2_with fail
          refine (list_n Q hQ.out hR3).mono ?_; rintro e w5 ⟨A5, k5, rfl, hk5, hM5, g5⟩
          have hR5 := hR3.keep g5
          have hg5 := grown_trans hg3 g5
          have hs5 := hM5.sl
          clear g5 hM5 hR3 hg3
          go_wp2_with fail
          go_loopw [11, 12] (fun a _ wr5 => ∃ q : Nat, q ≤ Q ∧ a = .int .i64 q ∧ Drawn w5 wr5) (fun a _ _ => Q - (intOf a).toNat)
          case atStart => exact ⟨0, Nat.zero_le _, rfl, Drawn.refl _⟩
          case round =>
            obtain ⟨q, hq, rfl, hdr⟩ := hrel
            by_cases hqQ : q < Q
            · have hql : q < ns3.length := by rw [hQ.out]; exact hqQ
              have hqI : (q : Int) < (Q : Int) := by omega
              have hq0 : (0 : Int) ≤ (q : Int) := Int.natCast_nonneg _
              obtain ⟨b5, o5, rfl, -⟩ := (hdr.sl hs5).at hql
              have hmem := Lib.hid (gd_mem hql)
              have hpos : 0 ≤ gd ns3 q := hG3.out.2 _ (gd_mem hql)
              clear hql
              go_wp2_with fail
              go_loopw [12] (fun z wr6 => ∃ p : Nat, p ≤ q ∧ z = .int .i64 p ∧ Drawn w5 wr6) (fun z _ => q - (intOf z).toNat)
              case atStart => exact ⟨0, Nat.zero_le _, rfl, hdr⟩
              case round =>
                obtain ⟨p, hp, rfl, hdr2⟩ := hrel
                by_cases hpq : p < q
                · have hcq := (hdr2.sl hs5).cell (i := q) (by rw [hQ.out]; exact hqQ)
                  have hcp := (hdr2.sl hs5).cell (i := p) (by rw [hQ.out]; omega)
                  have hne : (gd ns3 q == gd ns3 p) = false := by
                    rw [beq_eq_false_iff_ne, gd_lt (by rw [hQ.out]; exact hqQ), gd_lt (by rw [hQ.out]; omega)]
                    intro e
                    have := (List.getElem_inj hG3.out.1).1 e
                    omega
                  have hp0 : (0 : Int) ≤ (p : Int) := Int.natCast_nonneg _
                  have hpI : (p : Int) < (Q : Int) := by omega
                  go_wp2_with fail
                  go_quiet (fail)
                  go_wp2_with fail
                  go_roundw
                  case rel => exact ⟨p + 1, by omega, by go_num, hdr2.step _⟩
                  case measure => simp [intOf] <;> omega
                · have hcq := (hdr2.sl hs5).cell (i := q) (by rw [hQ.out]; exact hqQ)
                  have hr7 : Hid (putRes ns3 N (gd ns3 q) = 7) := by show _ = _; unfold putRes; rw [if_neg (by omega), if_pos hmem.out]
                  have hnl : decide (gd ns3 q < 0) = false := decide_eq_false (by omega)
                  obtain ⟨nd, rfl⟩ := hdr2
                  have hcq0 := hs5.cell (i := q) (by rw [hQ.out]; exact hqQ)
                  have hR6 := hR5.drewN nd
                  go_wp2_with fail
                  refine (put_res _ 7 (by decide) hr7.out hR6).mono ?_; rintro e w7 ⟨rfl, n7, rfl⟩
                  go_wp2_with fail
                  refine (push_res _ 7 (by decide) hr7.out (hR5.drewN (nd + n7))).mono ?_; rintro e w8 ⟨rfl, n8, rfl⟩
                  go_wp2_with fail
                  go_roundw
                  case rel => exact ⟨q + 1, by omega, by go_num, nd + n7 + n8, rfl⟩
                  case measure => simp [intOf] <;> omega
            · obtain ⟨nd, rfl⟩ := hdr
              go_wp2_with fail
              go_roundw
              case rel => exact ⟨k + 1, _, _, ns3, by omega, by go_num, hG3.out, hR5.drewN nd, grown_drewN hg5 nd⟩
              case measure => simp [intOf] <;> omega
        · by_cases hmem : n ∈ ns
          · replace hmem := Lib.hid hmem
            go_wp2_with fail
            refine (remove_ok n hmem.out hR1).mono ?_; rintro e w2 ⟨rfl, ⟨j, f2, c2, hj, hgj, -, hR2⟩, g2⟩
            have hX2 := hX.fr g2 (by rintro (h | h) <;> omega)
            have hno : Hid (n ∉ ns.eraseIdx j) := by rw [← hgj]; exact (hG.out.erase hj).2
            have hG2 := Lib.hid (hG.out.erase hj).1
            have hn0 : 0 ≤ n := hG.out.2 n hmem.out
            have hlt2 : (ns.eraseIdx j).length < N := by rw [List.length_eraseIdx, if_pos hj]; have := hR.le; omega
            have hr0 : Hid (putRes (ns.eraseIdx j) N n = 0) := putRes_zero hn0 hno.out hlt2
            have hG3 := (hG2.out).snoc hn0 hno.out
            clear hc1 hgj hj hlt2 hn0
            have hcx : w2.cell? ⟨wr.heap.size, 1, none⟩ = some (.int .i64 n) := hX2.cell (i := 1) (by decide)
            go_wp2_with fail
            refine (remove_no n hno.out hR2).mono ?_; rintro e w2' ⟨rfl, n2, rfl⟩
            go_wp2_with fail
            refine (put_ok n hr0.out (hR2.drewN n2)).mono ?_; rintro e w3 ⟨rfl, ⟨f3, c3, hR3⟩, g3'⟩
            have g3 := g2.trans ((fr_drewN _ w2 n2).trans g3')
            generalize ns.eraseIdx j ++ [n] = ns3 at *
            clear hno hG2 hr0 hX2 g2 g3' hR2 hcx
            have hg3 := fr_step hg1 g3 hBw hMw
            replace hG3 := Lib.hid hG3
            obtain ⟨Q, hQ⟩ : ∃ Q, ns3.length = Q := ⟨_, rfl⟩
            have hQN : Q ≤ N := by rw [← hQ]; exact hR3.le
            replace hQ := Lib.hid hQ
            have hnQ : ¬ N < Q := by omega
            have hQ1024 : Q ≤ 1024 := by omega
            replace hQN := Lib.hid hQN
            clear g3 hg1 hR1 hX hgA hg hR
            go_wp2_with fail
            refine (list_n Q hQ.out hR3).mono ?_; rintro e w5 ⟨A5, k5, rfl, hk5, hM5, g5⟩
            have hR5 := hR3.keep g5
            have hg5 := grown_trans hg3 g5
            have hs5 := hM5.sl
            clear g5 hM5 hR3 hg3
            go_wp2_with fail
            go_loopw [11, 12] (fun a _ wr5 => ∃ q : Nat, q ≤ Q ∧ a = .int .i64 q ∧ Drawn w5 wr5) (fun a _ _ => Q - (intOf a).toNat)
            case atStart => exact ⟨0, Nat.zero_le _, rfl, Drawn.refl _⟩
            case round =>
              obtain ⟨q, hq, rfl, hdr⟩ := hrel
              by_cases hqQ : q < Q
              · have hql : q < ns3.length := by rw [hQ.out]; exact hqQ
                have hqI : (q : Int) < (Q : Int) := by omega
                have hq0 : (0 : Int) ≤ (q : Int) := Int.natCast_nonneg _
                obtain ⟨b5, o5, rfl, -⟩ := (hdr.sl hs5).at hql
                have hmem := Lib.hid (gd_mem hql)
                have hpos : 0 ≤ gd ns3 q := hG3.out.2 _ (gd_mem hql)
                clear hql
                go_wp2_with fail
                go_loopw [12] (fun z wr6 => ∃ p : Nat, p ≤ q ∧ z = .int .i64 p ∧ Drawn w5 wr6) (fun z _ => q - (intOf z).toNat)
                case atStart => exact ⟨0, Nat.zero_le _, rfl, hdr⟩
                case round =>
                  obtain ⟨p, hp, rfl, hdr2⟩ := hrel
                  by_cases hpq : p < q
                  · have hcq := (hdr2.sl hs5).cell (i := q) (by rw [hQ.out]; exact hqQ)
                    have hcp := (hdr2.sl hs5).cell (i := p) (by rw [hQ.out]; omega)
                    have hne : (gd ns3 q == gd ns3 p) = false := by
                      rw [beq_eq_false_iff_ne, gd_lt (by rw [hQ.out]; exact hqQ), gd_lt (by rw [hQ.out]; omega)]
                      intro e
                      have := (List.getElem_inj hG3.out.1).1 e
                      omega
                    have hp0 : (0 : Int) ≤ (p : Int) := Int.natCast_nonneg _
                    have hpI : (p : Int) < (Q : Int) := by omega
                    go_wp2_with fail
                    go_quiet (fail)
                    go_wp2_with fail
                    go_roundw
                    case rel => exact ⟨p + 1, by omega, by go_num, hdr2.step _⟩
                    case measure => simp [intOf] <;> omega
                  · have hcq := (hdr2.sl hs5).cell (i := q) (by rw [hQ.out]; exact hqQ)
                    have hr7 : Hid (putRes ns3 N (gd ns3 q) = 7) := by show _ = _; unfold putRes; rw [if_neg (by omega), if_pos hmem.out]
                    have hnl : decide (gd ns3 q < 0) = false := decide_eq_false (by omega)
                    obtain ⟨nd, rfl⟩ := hdr2
                    have hcq0 := hs5.cell (i := q) (by rw [hQ.out]; exact hqQ)
                    have hR6 := hR5.drewN nd
                    go_wp2_with fail
                    refine (put_res _ 7 (by decide) hr7.out hR6).mono ?_; rintro e w7 ⟨rfl, n7, rfl⟩
                    go_wp2_with fail
                    refine (push_res _ 7 (by decide) hr7.out (hR5.drewN (nd + n7))).mono ?_; rintro e w8 ⟨rfl, n8, rfl⟩
                    go_wp2_with fail
                    go_roundw
                    case rel => exact ⟨q + 1, by omega, by go_num, nd + n7 + n8, rfl⟩
                    case measure => simp [intOf] <;> omega
              · obtain ⟨nd, rfl⟩ := hdr
                go_wp2_with fail
                go_roundw
                case rel => exact ⟨k + 1, _, _, ns3, by omega, by go_num, hG3.out, hR5.drewN nd, grown_drewN hg5 nd⟩
                case measure => simp [intOf] <;> omega
          · have hG3 := hG.out
            replace hmem := Lib.hid hmem
            go_wp2_with fail
            refine (remove_no n hmem.out hR1).mono ?_; rintro e w3 ⟨rfl, n2, rfl⟩
            have hR3 := hR1.drewN n2
            have g3 : Fr (BM B M) (wr.alloc (.cells #[.int .u8 (r : Int), .int .i64 n] 47)) ((wr.alloc (.cells #[.int .u8 (r : Int), .int .i64 n] 47)).drewN n2) := fr_drewN _ _ n2
            generalize ns = ns3 at *
            have hg3 := fr_step hg1 g3 hBw hMw
            replace hG3 := Lib.hid hG3
            obtain ⟨Q, hQ⟩ : ∃ Q, ns3.length = Q := ⟨_, rfl⟩
            have hQN : Q ≤ N := by rw [← hQ]; exact hR3.le
            replace hQ := Lib.hid hQ
            have hnQ : ¬ N < Q := by omega
            have hQ1024 : Q ≤ 1024 := by omega
            replace hQN := Lib.hid hQN
            clear g3 hg1 hR1 hX hgA hg hR
            go_wp2_with fail
            refine (list_n Q hQ.out hR3).mono ?_; rintro e w5 ⟨A5, k5, rfl, hk5, hM5, g5⟩
            have hR5 := hR3.keep g5
            have hg5 := grown_trans hg3 g5
            have hs5 := hM5.sl
            clear g5 hM5 hR3 hg3
            go_wp2_with fail
            go_loopw [11, 12] (fun a _ wr5 => ∃ q : Nat, q ≤ Q ∧ a = .int .i64 q ∧ Drawn w5 wr5) (fun a _ _ => Q - (intOf a).toNat)
            case atStart => exact ⟨0, Nat.zero_le _, rfl, Drawn.refl _⟩
            case round =>
              obtain ⟨q, hq, rfl, hdr⟩ := hrel
              by_cases hqQ : q < Q
              · have hql : q < ns3.length := by rw [hQ.out]; exact hqQ
                have hqI : (q : Int) < (Q : Int) := by omega
                have hq0 : (0 : Int) ≤ (q : Int) := Int.natCast_nonneg _
                obtain ⟨b5, o5, rfl, -⟩ := (hdr.sl hs5).at hql
                have hmem := Lib.hid (gd_mem hql)
                have hpos : 0 ≤ gd ns3 q := hG3.out.2 _ (gd_mem hql)
                clear hql
                go_wp2_with fail
                go_loopw [12] (fun z wr6 => ∃ p : Nat, p ≤ q ∧ z = .int .i64 p ∧ Drawn w5 wr6) (fun z _ => q - (intOf z).toNat)
                case atStart => exact ⟨0, Nat.zero_le _, rfl, hdr⟩
                case round =>
                  obtain ⟨p, hp, rfl, hdr2⟩ := hrel
                  by_cases hpq : p < q
                  · have hcq := (hdr2.sl hs5).cell (i := q) (by rw [hQ.out]; exact hqQ)
                    have hcp := (hdr2.sl hs5).cell (i := p) (by rw [hQ.out]; omega)
                    have hne : (gd ns3 q == gd ns3 p) = false := by
                      rw [beq_eq_false_iff_ne, gd_lt (by rw [hQ.out]; exact hqQ), gd_lt (by rw [hQ.out]; omega)]
                      intro e
                      have := (List.getElem_inj hG3.out.1).1 e
                      omega
                    have hp0 : (0 : Int) ≤ (p : Int) := Int.natCast_nonneg _
                    have hpI : (p : Int) < (Q : Int) := by omega
                    go_wp2_with fail
                    go_quiet (fail)
                    go_wp2_with fail
                    go_roundw
                    case rel => exact ⟨p + 1, by omega, by go_num, hdr2.step _⟩
                    case measure => simp [intOf] <;> omega
                  · have hcq := (hdr2.sl hs5).cell (i := q) (by rw [hQ.out]; exact hqQ)
                    have hr7 : Hid (putRes ns3 N (gd ns3 q) = 7) := by show _ = _; unfold putRes; rw [if_neg (by omega), if_pos hmem.out]
                    have hnl : decide (gd ns3 q < 0) = false := decide_eq_false (by omega)
                    obtain ⟨nd, rfl⟩ := hdr2
                    have hcq0 := hs5.cell (i := q) (by rw [hQ.out]; exact hqQ)
                    have hR6 := hR5.drewN nd
                    go_wp2_with fail
                    refine (put_res _ 7 (by decide) hr7.out hR6).mono ?_; rintro e w7 ⟨rfl, n7, rfl⟩
                    go_wp2_with fail
                    refine (push_res _ 7 (by decide) hr7.out (hR5.drewN (nd + n7))).mono ?_; rintro e w8 ⟨rfl, n8, rfl⟩
                    go_wp2_with fail
                    go_roundw
                    case rel => exact ⟨q + 1, by omega, by go_num, nd + n7 + n8, rfl⟩
                    case measure => simp [intOf] <;> omega
              · obtain ⟨nd, rfl⟩ := hdr
                go_wp2_with fail
                go_roundw
                case rel => exact ⟨k + 1, _, _, ns3, by omega, by go_num, hG3.out, hR5.drewN nd, grown_drewN hg5 nd⟩
                case measure => simp [intOf] <;> omega
        · go_wp2_with fail
          refine (turn_every hG.out hR1).mono ?_; rintro e w3 ⟨x, ns3, f3, c3, rfl, hR3, hG3, g3⟩
          have hg3 := fr_step hg1 g3 hBw hMw
          replace hG3 := Lib.hid hG3
          obtain ⟨Q, hQ⟩ : ∃ Q, ns3.length = Q := ⟨_, rfl⟩
          have hQN : Q ≤ N := by rw [← hQ]; exact hR3.le
          replace hQ := Lib.hid hQ
          have hnQ : ¬ N < Q := by omega
          have hQ1024 : Q ≤ 1024 := by omega
          replace hQN := Lib.hid hQN
          clear g3 hg1 hR1 hX hgA hg hR
          go_wp2_with fail
          refine (list_n Q hQ.out hR3).mono ?_; rintro e w5 ⟨A5, k5, rfl, hk5, hM5, g5⟩
          have hR5 := hR3.keep g5
          have hg5 := grown_trans hg3 g5
          have hs5 := hM5.sl
          clear g5 hM5 hR3 hg3
          go_wp2_with fail
          go_loopw [11, 12] (fun a _ wr5 => ∃ q : Nat, q ≤ Q ∧ a = .int .i64 q ∧ Drawn w5 wr5) (fun a _ _ => Q - (intOf a).toNat)
          case atStart => exact ⟨0, Nat.zero_le _, rfl, Drawn.refl _⟩
          case round =>
            obtain ⟨q, hq, rfl, hdr⟩ := hrel
            by_cases hqQ : q < Q
            · have hql : q < ns3.length := by rw [hQ.out]; exact hqQ
              have hqI : (q : Int) < (Q : Int) := by omega
              have hq0 : (0 : Int) ≤ (q : Int) := Int.natCast_nonneg _
              obtain ⟨b5, o5, rfl, -⟩ := (hdr.sl hs5).at hql
              have hmem := Lib.hid (gd_mem hql)
              have hpos : 0 ≤ gd ns3 q := hG3.out.2 _ (gd_mem hql)
              clear hql
              go_wp2_with fail
              go_loopw [12] (fun z wr6 => ∃ p : Nat, p ≤ q ∧ z = .int .i64 p ∧ Drawn w5 wr6) (fun z _ => q - (intOf z).toNat)
              case atStart => exact ⟨0, Nat.zero_le _, rfl, hdr⟩
              case round =>
                obtain ⟨p, hp, rfl, hdr2⟩ := hrel
                by_cases hpq : p < q
                · have hcq := (hdr2.sl hs5).cell (i := q) (by rw [hQ.out]; exact hqQ)
                  have hcp := (hdr2.sl hs5).cell (i := p) (by rw [hQ.out]; omega)
                  have hne : (gd ns3 q == gd ns3 p) = false := by
                    rw [beq_eq_false_iff_ne, gd_lt (by rw [hQ.out]; exact hqQ), gd_lt (by rw [hQ.out]; omega)]
                    intro e
                    have := (List.getElem_inj hG3.out.1).1 e
                    omega
                  have hp0 : (0 : Int) ≤ (p : Int) := Int.natCast_nonneg _
                  have hpI : (p : Int) < (Q : Int) := by omega
                  go_wp2_with fail
                  go_quiet (fail)
                  go_wp2_with fail
                  go_roundw
                  case rel => exact ⟨p + 1, by omega, by go_num, hdr2.step _⟩
                  case measure => simp [intOf] <;> omega
                · have hcq := (hdr2.sl hs5).cell (i := q) (by rw [hQ.out]; exact hqQ)
                  have hr7 : Hid (putRes ns3 N (gd ns3 q) = 7) := by show _ = _; unfold putRes; rw [if_neg (by omega), if_pos hmem.out]
                  have hnl : decide (gd ns3 q < 0) = false := decide_eq_false (by omega)
                  obtain ⟨nd, rfl⟩ := hdr2
                  have hcq0 := hs5.cell (i := q) (by rw [hQ.out]; exact hqQ)
                  have hR6 := hR5.drewN nd
                  go_wp2_with fail
                  refine (put_res _ 7 (by decide) hr7.out hR6).mono ?_; rintro e w7 ⟨rfl, n7, rfl⟩
                  go_wp2_with fail
                  refine (push_res _ 7 (by decide) hr7.out (hR5.drewN (nd + n7))).mono ?_; rintro e w8 ⟨rfl, n8, rfl⟩
                  go_wp2_with fail
                  go_roundw
                  case rel => exact ⟨q + 1, by omega, by go_num, nd + n7 + n8, rfl⟩
                  case measure => simp [intOf] <;> omega
            · obtain ⟨nd, rfl⟩ := hdr
              go_wp2_with fail
              go_roundw
              case rel => exact ⟨k + 1, _, _, ns3, by omega, by go_num, hG3.out, hR5.drewN nd, grown_drewN hg5 nd⟩
              case measure => simp [intOf] <;> omega
      · go_wp2_with fail
        go_ret
        exact ⟨rfl, hg⟩
end Go.Proofs.Ytmjcanamfijdjaa
