/- Package heirs: Circle. -/
import Derived.Test.YtigghlnnhdoabaaDoorRows
import Derived.Test.YtigghlnnhdoabaaDoorHeiM
import Derived.Test.YtigghlnnhdoabaaDoorSameI
namespace Go.Proofs.YtigghlnnhdoabaaDoor
open Go.RowKit Go.Shelf Tk Tk.Hei
set_option linter.unusedVariables false
set_option linter.unusedSimpArgs false
attribute [local go_sem] Oper.semAt_some

def oddB (N : Nat) (x : Int) : Bool := decide (x < -1) || decide ((N : Int) ≤ x)
theorem oddB_false {N : Nat} {x : Int} : oddB N x = false ↔ -1 ≤ x ∧ x < N := by
  unfold oddB; rw [Bool.or_eq_false_iff, decide_eq_false_iff_not, decide_eq_false_iff_not]; omega
set_option maxHeartbeats 1000000 in
theorem odd_ok (X : Nat) (A : Option Addr) (N c : Nat) (x : Int) (w : World) (hX : w.cell? ⟨X, 0, none⟩ = some (.slice A N c)) :
    Calls Tryd.prog 40 #[.int .i64 x, .pointer (some ⟨X, 0, none⟩)] w fun e w' => e = .returned (.bool (oddB N x)) ∧ w = w' := by
  by_cases h1 : x < -1
  · have hr : oddB N x = true := by unfold oddB; rw [decide_eq_true h1]; rfl
    rw [hr]
    go_enter Tryd.func40, Tryd.ntmps40
    go_wp2
    go_ret
    exact ⟨rfl, rfl⟩
  · by_cases h2 : (N : Int) ≤ x
    · have hr : oddB N x = true := by unfold oddB; rw [decide_eq_true h2]; simp
      rw [hr]
      go_enter Tryd.func40, Tryd.ntmps40
      go_wp2
      go_ret
      exact ⟨rfl, rfl⟩
    · have hr : oddB N x = false := by unfold oddB; rw [decide_eq_false h1, decide_eq_false h2]; rfl
      rw [hr]
      go_enter Tryd.func40, Tryd.ntmps40
      go_wp2
      go_ret
      exact ⟨rfl, rfl⟩
set_option maxRecDepth 100000 in
set_option maxHeartbeats 2000000 in
theorem index_ok (X : Nat) (A : Option Addr) (c lo hi : Nat) (ws : List Int) (hm : ws.length ≤ 1000000) (w : World) (hX : w.cell? ⟨X, 0, none⟩ = some (.slice A ws.length c)) (hs : SlA w lo hi .i64 A ws) :
    Calls Tryd.prog 59 #[.slice A ws.length c, .func (.func 40) #[] #[.pointer (some ⟨X, 0, none⟩)]] w fun e w' => ∃ r : Int, e = .returned (.int .i64 r) ∧ (r = -1 ∧ Okw ws ∨ 0 ≤ r ∧ ¬ Okw ws) ∧ w = w' := by
  obtain ⟨N, hN⟩ : ∃ N, ws.length = N := ⟨_, rfl⟩
  rw [hN] at hm hX ⊢
  replace hN := Lib.hid hN
  go_enter Tryd.func59, Tryd.ntmps59
  go_wp2_with fail
  go_loopw [5, 8] (fun _ i wr => ∃ k : Nat, k ≤ N ∧ i = .int .i64 k ∧ Hid (∀ j, j < k → oddB N (gd ws j) = false) ∧ wr = w) (fun _ i _ => N - (intOf i).toNat)
  case atStart => exact ⟨0, Nat.zero_le _, rfl, fun j hj => absurd hj (Nat.not_lt_zero _), rfl⟩
  case round =>
    obtain ⟨k, hk, rfl, hno, rfl⟩ := hrel
    by_cases hlt : k < N
    · obtain ⟨b, o, rfl, hc⟩ := hs.at (i := k) (by rw [hN.out]; exact hlt)
      have hkI : (k : Int) < (N : Int) := by omega
      cases hq : oddB N (gd ws k) with
      | true =>
        have hbad : Hid (¬ Okw ws) := fun h => by
          have := h k (by rw [hN.out]; exact hlt)
          rw [hN.out, ← oddB_false, hq] at this; cases this
        have hodd := odd_ok X (some ⟨b, o, none⟩) N c (gd ws k) wr hX
        rw [hq] at hodd
        replace hodd := Lib.hid hodd
        replace hq := Lib.hid hq
        generalize gd ws k = x at *
        go_wp2_with fail
        refine hodd.out.mono ?_; rintro e w' ⟨rfl, rfl⟩
        go_wp2_with fail
        go_ret
        exact ⟨k, rfl, .inr ⟨by omega, hbad.out⟩, rfl⟩
      | false =>
        have hno' : Hid (∀ j, j < k + 1 → oddB N (gd ws j) = false) := fun j hj => by
          by_cases e : j = k
          · subst e; exact hq
          · exact hno.out j (by omega)
        have hodd := odd_ok X (some ⟨b, o, none⟩) N c (gd ws k) wr hX
        rw [hq] at hodd
        replace hodd := Lib.hid hodd
        replace hq := Lib.hid hq
        generalize hx : gd ws k = x at hodd hc
        replace hx := Lib.hid hx
        go_wp2_with fail
        refine hodd.out.mono ?_; rintro e w' ⟨rfl, rfl⟩
        go_wp2_with fail
        go_roundw
        case rel => exact ⟨k + 1, by omega, by go_num, hno', by trivial⟩
        case measure => simp [intOf]; omega
    · obtain rfl : k = N := by omega
      have hok : Okw ws := fun i hi => by
        have := hno.out i (by rw [← hN.out]; exact hi)
        rw [oddB_false] at this
        rw [hN.out]; exact this
      replace hok := Lib.hid hok
      go_wp2_with fail
      go_ret
      exact ⟨-1, rfl, .inl ⟨rfl, hok.out⟩, rfl⟩
set_option maxHeartbeats 1000000 in
theorem contains_ok (X : Nat) (A : Option Addr) (c lo hi : Nat) (ws : List Int) (hm : ws.length ≤ 1000000) (w : World) (hX : w.cell? ⟨X, 0, none⟩ = some (.slice A ws.length c)) (hs : SlA w lo hi .i64 A ws) :
    Calls Tryd.prog 41 #[.slice A ws.length c, .func (.func 40) #[] #[.pointer (some ⟨X, 0, none⟩)]] w fun e w' => ∃ q, e = .returned (.bool q) ∧ (q = false ∧ Okw ws ∨ q = true ∧ ¬ Okw ws) ∧ w = w' := by
  have h := Lib.hid (index_ok X A c lo hi ws hm w hX hs)
  obtain ⟨N, hN⟩ : ∃ N, ws.length = N := ⟨_, rfl⟩
  rw [hN] at hm hX h ⊢
  clear hs hN hm hX
  go_enter Tryd.func41, Tryd.ntmps41
  go_wp2_with fail
  refine h.out.mono ?_; rintro e w' ⟨r, rfl, hr, rfl⟩
  rcases hr with ⟨rfl, hok⟩ | ⟨h0, hok⟩
  · replace hok := Lib.hid hok
    go_wp2_with fail
    go_ret
    exact ⟨false, rfl, .inl ⟨rfl, hok.out⟩, rfl⟩
  · replace hok := Lib.hid hok
    go_wp2_with fail
    go_ret
    exact ⟨true, rfl, .inr ⟨rfl, hok.out⟩, rfl⟩
set_option maxHeartbeats 400000 in
theorem chain_any (A : Option Addr) (N c : Nat) (f : Int) (w : World) :
    Calls Tryd.prog 42 #[.slice A N c, .int .i64 f] w fun e w' => e = .returned (.func (.func 60) #[] #[.pointer (some ⟨w.heap.size, 0, none⟩), .pointer (some ⟨w.heap.size + 1, 0, none⟩)]) ∧ (w.alloc (.cells #[.slice A N c] 22)).alloc (.cells #[.int .i64 f] 3) = w' := by
  go_enter Tryd.func42, Tryd.ntmps42
  go_wp2
  go_ret
  exact ⟨rfl, rfl⟩
set_option maxRecDepth 100000 in
set_option maxHeartbeats 2000000 in
/-- The iterator: it tells the chain, so many places of it as there are, until who is met. -/
theorem chain_seq (L Bw Bf : Nat) (A : Option Addr) (c lo hi : Nat) (ws : List Int) (hok : Okw ws) (hm : ws.length ≤ 1000000) (who a : Int) (ha : a < ws.length) (J Jx : World → Prop)
    (hK : ∀ W, J W → W.cell? ⟨Bw, 0, none⟩ = some (.slice A ws.length c) ∧ SlA W lo hi .i64 A ws)
    (hY : ∀ (x : Int) W, J W → Boxed W Bf 3 (.int .i64 x) →
      ∃ fn tmps assign body, (Instr.yield L #[.int .i64 x]).run Tryd.prog W = .ok (.round L fn tmps assign body) W ∧
        RoundIn Fence.wide 3 Tryd.prog L fn tmps assign body W fun e W' => (x ≠ who ∧ e = .returned (.bool true) ∧ J W' ∧ Boxed W' Bf 3 (.int .i64 x)) ∨ (x = who ∧ e = .returned (.bool false) ∧ Jx W'))
    (hJ : ∀ W v v', J W → Boxed W Bf 3 v → J (W.setCell ⟨Bf, 0, none⟩ v')) (W : World) (h0 : J W) (hb : Boxed W Bf 3 (.int .i64 a)) :
    CallsIn Fence.wide 4 Tryd.prog 60 #[.func (.yield L) #[] #[], .pointer (some ⟨Bw, 0, none⟩), .pointer (some ⟨Bf, 0, none⟩)] W fun e W' => (∃ v, e = .returned v) ∧ (circ ws ws.length a who = false ∧ J W' ∨ circ ws ws.length a who = true ∧ Jx W') := by
  have hN0 : Hid (ws.length = ws.length) := rfl
  obtain ⟨N, hN⟩ : ∃ N, ws.length = N := ⟨_, rfl⟩
  rw [hN] at hm ha hK ⊢
  clear hN0
  replace hN := Lib.hid hN
  replace hK := Lib.hid hK
  obtain ⟨h1, -⟩ := hK.out _ h0
  refine callsIn_of_wp Tryd.func60 rfl trivial ?_ rfl
  simp only [Tryd.ntmps60, List.size_toArray, List.length_cons, List.length_nil, Nat.reduceAdd, Nat.reduceSub, Array.replicate_succ, Array.replicate_zero, List.push_toArray, List.append_toArray, List.nil_append, List.cons_append]
  gi_wp2
  gi_loopw [6] (fun i wr => ∃ (k : Nat) (x : Int), k ≤ N ∧ i = .int .i64 k ∧ x < N ∧ Hid (circ ws N a who = circ ws (N - k) x who) ∧ Boxed wr Bf 3 (.int .i64 x) ∧ J wr) (fun i _ => N - (intOf i).toNat)
  case atStart => exact ⟨0, a, Nat.zero_le _, rfl, ha, rfl, hb, h0⟩
  case round =>
    obtain ⟨k, x, hk, rfl, hx, hcr, hbx, hj⟩ := hrel
    have hc := hbx.cell
    clear h1
    obtain ⟨h1, hs⟩ := hK.out _ hj
    by_cases hlt : k < N
    · have hkI : (k : Int) < (N : Int) := by omega
      obtain ⟨d, hd⟩ : ∃ d, N - k = d + 1 := ⟨N - k - 1, by omega⟩
      by_cases hneg : x < 0
      · have hfin : Hid (circ ws N a who = false) := by show _ = _; rw [hcr.out, hd]; unfold circ; rw [if_pos hneg]
        gi_wp2
        refine ⟨fun _ h => (by cases h), ?_⟩
        gi_wp2
        refine bodyPost_ret (results_none rfl _ _ _) rfl ?_
        exact ⟨⟨_, rfl⟩, .inl ⟨hfin.out, hj⟩⟩
      · have hneg' : Hid (¬ x < 0) := hneg
        obtain ⟨fn, tmps, assign, body, hy, hR⟩ := hY x wr hj hbx
        gi_wp2_with (refine hR.mono ?_)
        rintro e W3 (⟨hne, rfl, hj3, hb3⟩ | ⟨he, rfl, hj3⟩)
        · have hc3 := hb3.cell
          have hf3 := hb3.frozen
          obtain ⟨h13, hs3⟩ := hK.out _ hj3
          obtain ⟨p, rfl⟩ := Int.eq_ofNat_of_zero_le (by omega : 0 ≤ x)
          have hpN : p < N := by omega
          obtain ⟨b, o, rfl, hcp⟩ := hs3.at (i := p) (by rw [hN.out]; exact hpN)
          have hcr' : Hid (circ ws N a who = circ ws (N - (k + 1)) (gd ws p) who) := by
            show _ = _
            rw [hcr.out, hd, show N - (k + 1) = d by omega]
            show (if (p : Int) < 0 then false else if (p : Int) = who then true else circ ws d (gd ws (p : Int).toNat) who) = _
            rw [if_neg (by have := hneg'.out; omega), if_neg hne, Int.toNat_natCast]
          have hgp : gd ws p < N := by
            have := (hok p (by rw [hN.out]; exact hpN)).2
            rwa [hN.out] at this
          replace hgp := Lib.hid hgp
          generalize hg : gd ws p = y at *
          replace hg := Lib.hid hg
          clear hne hs hs3
          gi_wp2
          go_roundw
          case rel => exact ⟨k + 1, y, by omega, by go_num, hgp.out, hcr', hb3.set _, hJ _ _ _ hj3 hb3⟩
          case measure => simp [intOf]; omega
        · have hfin : Hid (circ ws N a who = true) := by show _ = _; rw [hcr.out, hd]; unfold circ; rw [if_neg (by have := hneg'.out; omega), if_pos he]
          gi_wp2
          refine bodyPost_ret (results_none rfl _ _ _) rfl ?_
          exact ⟨⟨_, rfl⟩, .inr ⟨hfin.out, hj3⟩⟩
    · obtain rfl : N = k := by omega
      have hfin : Hid (circ ws N a who = false) := by show _ = _; rw [hcr.out, Nat.sub_self]; rfl
      gi_wp2
      go_end0
      exact ⟨⟨_, rfl⟩, .inl ⟨hfin.out, hj⟩⟩
end Go.Proofs.YtigghlnnhdoabaaDoor
