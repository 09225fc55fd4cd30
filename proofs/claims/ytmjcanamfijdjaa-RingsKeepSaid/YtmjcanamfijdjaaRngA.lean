/- The laws of rings: what they share. -/
import Derived.Test.YtmjcanamfijdjaaRing5
import Derived.Test.YtmjcanamfijdjaaSameI
namespace Go.Proofs.Ytmjcanamfijdjaa
open Go.RowKit Go.Shelf Tk
set_option linter.unusedVariables false
set_option linter.unusedSimpArgs false

theorem same_n (A A' : Option Addr) (c c' lo hi lo' hi' N : Nat) (os : List Int) (hN : os.length = N) (h64 : N ≤ 2000) (hc : N ≤ c) (hc' : N ≤ c') (w : World) (hs : SlA w lo hi .i64 A os) (hs' : SlA w lo' hi' .i64 A' os) :
    Calls Try.prog 18 #[.slice A N c, .slice A' N c'] w fun e w' => e = .returned (.bool true) ∧ ∃ n, w.drewN n = w' := by
  subst hN
  refine (sameInts_any A A' c c' lo hi lo' hi' os os w hc hc' (by omega) (by omega) hs hs').mono ?_
  rw [decide_eq_true rfl]
  rintro e w' h; exact h
theorem put_res {w : World} {B M m : Nat} {ns : List Int} {f : Nat} {c : Nat → Int} (n e : Int) (he : e ≠ 0) (hr : putRes ns m n = e) (h : Rg w B M m ns f c) :
    Calls Try.prog 10 #[.pointer (some ⟨B, 0, none⟩), .int .i64 n] w fun x w' => x = .returned (.int .i64 e) ∧ ∃ nd, w.drewN nd = w' := by
  refine put_no _ n e he w ?_
  rw [← hr]; exact may_res n h
theorem push_res {w : World} {B M m : Nat} {ns : List Int} {f : Nat} {c : Nat → Int} (n e : Int) (he : e ≠ 0) (hr : putRes ns m n = e) (h : Rg w B M m ns f c) :
    Calls Try.prog 11 #[.pointer (some ⟨B, 0, none⟩), .int .i64 n] w fun x w' => x = .returned (.int .i64 e) ∧ ∃ nd, w.drewN nd = w' := by
  refine push_no _ n e he w ?_
  rw [← hr]; exact may_res n h
/-- A truth of which something is known. -/
def BoolIs (v : Value) (P : Bool → Prop) : Prop := ∃ q, v = .bool q ∧ P q
theorem BoolIs.of {P : Bool → Prop} (q : Bool) (h : P q) : BoolIs (.bool q) P := ⟨q, rfl, h⟩
set_option maxRecDepth 100000 in
set_option maxHeartbeats 8000000 in
theorem alive_any (w : World) : Calls Try.prog 15 #[] w fun e w' => e = .returned (.bool true) ∧ w.grownBy w' none := by
  go_enter Try.func15, Try.ntmps15
  go_wp2_with fail
  refine (new_ok 3 3 rfl (by decide) (by decide) _).mono ?_; rintro e wa ⟨B, M, rfl, hR, hM, hB, hg⟩
  go_wp2_with fail
  refine (new_bad 1025 (by decide) _).mono ?_; rintro e w' ⟨rfl, rfl⟩
  go_wp2_with fail
  refine (put_ok 5 (by decide) hR).mono ?_; rintro e w1 ⟨rfl, ⟨f1, c1, hR1⟩, g1⟩
  have hg1 := fr_step hg g1 hB hM
  replace hR1 : Rg w1 B M 3 [5] f1 c1 := hR1
  clear hR hg g1
  go_wp2_with fail
  refine (put_ok 6 (by decide) hR1).mono ?_; rintro e w2 ⟨rfl, ⟨f2, c2, hR2⟩, g2⟩
  have hg2 := fr_step hg1 g2 hB hM
  replace hR2 : Rg w2 B M 3 [5, 6] f2 c2 := hR2
  clear hR1 hg1 g2
  go_wp2_with fail
  refine (push_ok 4 (by decide) hR2).mono ?_; rintro e w3 ⟨rfl, ⟨f3, c3, hR3⟩, g3⟩
  have hg3 := fr_step hg2 g3 hB hM
  replace hR3 : Rg w3 B M 3 [4, 5, 6] f3 c3 := hR3
  clear hR2 hg2 g3
  go_wp2_with fail
  refine (put_res 7 10 (by decide) (by decide) hR3).mono ?_; rintro e w4 ⟨rfl, n4, rfl⟩
  go_wp2_with fail
  refine (put_res 5 7 (by decide) (by decide) (hR3.drewN n4)).mono ?_; rintro e w4 ⟨rfl, n5, rfl⟩
  go_wp2_with fail
  refine (put_res (-1) 1 (by decide) (by decide) (hR3.drewN (n4 + n5))).mono ?_; rintro e w4 ⟨rfl, n6, rfl⟩
  have hR4 := hR3.drewN (n4 + n5 + n6)
  have hg4 := grown_drewN hg3 (n4 + n5 + n6)
  clear hR3 hg3
  go_wp2_with fail
  refine (turn_ok hR4).mono ?_; rintro e w5 ⟨rfl, ⟨f5, c5, hR5⟩, g5⟩
  have hg5 := fr_step hg4 g5 hB hM
  replace hR5 : Rg w5 B M 3 [5, 6, 4] f5 c5 := hR5
  clear hR4 hg4 g5
  go_wp2_with fail
  refine (list_n 3 rfl hR5).mono ?_; rintro e w6 ⟨A, k, rfl, hk, hL, g6⟩
  have hR6 := hR5.keep g6
  have hg6 := grown_trans hg5 g6
  have hBs := hR5.hdr.lt
  have hMs := hR5.blk.lt
  have hs6 := hL.sl
  clear hR5 hg5 hL g6
  go_wp2_with fail
  refine (remove_ok 6 (by decide) hR6).mono ?_; rintro e w7 ⟨rfl, ⟨j, f7, c7, hj, hgj, -, hR7⟩, g7⟩
  have hj1 : j = 1 := by
    rcases j with _ | _ | _ | j
    · exact absurd hgj (by decide)
    · rfl
    · exact absurd hgj (by decide)
    · have h9 : j + 1 + 1 + 1 < 3 := hj
      omega
  subst hj1
  replace hR7 : Rg w7 B M 3 [5, 4] f7 c7 := hR7
  have hg7 := fr_step hg6 g7 hB hM
  have hs7 := hs6.fr g7 (by rintro b h1 h2 (rfl | rfl) <;> omega)
  clear hR6 hg6 hs6 g7 hgj hj
  go_wp2_with fail
  refine (take_ok hR7).mono ?_; rintro e w8 ⟨rfl, ⟨f8, c8, hR8⟩, g8⟩
  have hg8 := fr_step hg7 g8 hB hM
  have hs8 := hs7.fr g8 (by rintro b h1 h2 (rfl | rfl) <;> omega)
  clear hR7 hg7 hs7 g8
  have hsn := SlA.made w8 .i64 [5, 6, 4] #[.int .i64 5, .int .i64 6, .int .i64 4] 3 rfl
  have hgA := World.grownBy_alloc w8 (.cells #[.int .i64 5, .int .i64 6, .int .i64 4] 3) none
  have hs9 := hs8.kept hgA (by simp)
  have hR9 := hR8.keep hgA
  have hg9 := grown_trans hg8 hgA
  go_wp2_with fail
  refine (same_n _ _ _ _ _ _ _ _ 3 [5, 6, 4] rfl (by decide) hk (by decide) _ hs9 hsn).mono ?_; rintro e w10 ⟨rfl, n10, rfl⟩
  have hR10 := hR9.drewN n10
  have hg10 := grown_drewN hg9 n10
  obtain ⟨W1, hW1⟩ : ∃ W1, (w8.alloc (.cells #[.int .i64 5, .int .i64 6, .int .i64 4] 3)).drewN n10 = W1 := ⟨_, rfl⟩
  rw [hW1] at hR10 hg10 ⊢
  clear hW1 hR8 hg8 hs8 hsn hgA hs9 hR9 hg9
  go_wp2_with fail
  refine (list_n 1 rfl hR10).mono ?_; rintro e w11 ⟨A2, k2, rfl, hk2, hL2, g11⟩
  have hsn := SlA.made w11 .i64 [4] #[.int .i64 4] 3 rfl
  have hgA := World.grownBy_alloc w11 (.cells #[.int .i64 4] 3) none
  have hs12 := hL2.sl.kept hgA (by simp)
  have hR12 := hR10.keep (grown_trans g11 hgA)
  have hg12 := grown_trans hg10 (grown_trans g11 hgA)
  go_wp2_with fail
  refine (same_n _ _ _ _ _ _ _ _ 1 [4] rfl (by decide) hk2 (by decide) _ hs12 hsn).mono ?_; rintro e w13 ⟨rfl, n13, rfl⟩
  go_wp2_with fail
  refine (remove_no 6 (by decide) (hR12.drewN n13)).mono ?_; rintro e w14 ⟨rfl, n14, rfl⟩
  go_wp2_with fail
  go_ret
  exact ⟨rfl, grown_drewN hg12 (n13 + n14)⟩
set_option maxRecDepth 100000 in
set_option maxHeartbeats 8000000 in
theorem unlike_any (A0 : Option Addr) (c0 : Nat) (xs : List Int) (hl : xs.length ≤ 200) (w : World) (lo hi : Nat) (hs : SlA w lo hi .u8 A0 xs) (hf : ∀ x ∈ xs, 0 ≤ x ∧ x < 256) :
    Calls Try.prog 16 #[.slice A0 xs.length c0] w fun e w' => ∃ A k U, e = .returned (.slice A (U : List Int).length k) ∧ U.length ≤ k ∧ Mine w' w.heap.size 3 .i64 (.slice A U.length k) U ∧ U.Nodup ∧ (∀ x ∈ U, x ∈ xs) ∧ U.length ≤ xs.length ∧ (xs ≠ [] → U ≠ []) ∧ w.grownBy w' none := by
  obtain ⟨i0, hi0, hz0, hz1, hz2⟩ := info_parts infoInt
  have hK := Lib.hid (fun wr (h : w.grownBy wr none) => hs.kept h (by simp))
  have hfit : Hid (∀ i, i < xs.length → 0 ≤ gd xs i ∧ gd xs i < 256) := fun i hi => hf _ (gd_mem hi)
  clear hs hf
  go_enter Try.func16, Try.ntmps16
  go_wp2_with fail
  go_loopw [3, 4] (fun v i wr => ∃ (k : Nat) (U : List Int), k ≤ xs.length ∧ i = .int .i64 k ∧ Mine wr w.heap.size 3 .i64 v U ∧ Hid U.Nodup ∧ Hid (∀ x ∈ U, x ∈ xs) ∧ U.length ≤ k ∧ Hid (0 < k → U ≠ []) ∧ w.grownBy wr none) (fun _ i _ => xs.length - (intOf i).toNat)
  case atStart => exact ⟨0, [], Nat.zero_le _, rfl, Mine.nil _ _ _ _, List.nodup_nil, fun x hx => by simp at hx, Nat.le_refl _, fun h => absurd h (Nat.lt_irrefl _), grown_refl _ _⟩
  case round =>
    obtain ⟨k, U, hk, rfl, hM, hnd, hsub, hUk, hne, hg⟩ := hrel
    have hws := hg.size
    obtain ⟨A1, k1, rfl, hc1, hc2, hF⟩ := hM.form
    by_cases hlt : k < xs.length
    · obtain ⟨b, o, rfl, hc⟩ := (hK.out _ hg).at hlt
      obtain ⟨f1, f2⟩ := hfit.out k hlt
      have hxm := Lib.hid (gd_mem hlt)
      generalize gd xs k = x at *
      have hcI : Hid (∀ w', Drawn wr w' → w'.cell? ⟨b, o + k, none⟩ = some (.int .u8 x)) := fun w' hd => by obtain ⟨n, rfl⟩ := hd; exact hc
      have hk0 : (0 : Int) ≤ (k : Int) := Int.natCast_nonneg _
      have hkI : (k : Int) < (xs.length : Int) := by omega
      go_wp2_with fail
      go_loopw [5, 6] (fun t i wr2 => ∃ q : Nat, q ≤ U.length ∧ i = .int .i64 q ∧ BoolIs t (fun z => Hid (z = decide (∃ j, j < q ∧ gd U j = x))) ∧ Drawn wr wr2) (fun _ i _ => U.length - (intOf i).toNat)
      case atStart => exact ⟨0, Nat.zero_le _, rfl, BoolIs.of _ (by show _ = _; simp), Drawn.refl _⟩
      case round =>
        obtain ⟨q, hq, rfl, ⟨z, rfl, hz⟩, hdr⟩ := hrel
        by_cases hqU : q < U.length
        · rcases hF with ⟨-, e⟩ | ⟨g, rfl, -, -⟩
          · rw [e] at hqU; simp at hqU
          have hcl := (hM.drawn hdr).cell hqU
          have hcx := hcI.out _ hdr
          have hq0 : (0 : Int) ≤ (q : Int) := Int.natCast_nonneg _
          have hqI : (q : Int) < (U.length : Int) := by omega
          cases z with
          | true =>
            have hz2 : Hid (true = decide (∃ j, j < q + 1 ∧ gd U j = x)) := by
              show _ = _
              have := hz.out
              rw [eq_comm, decide_eq_true_eq] at this ⊢
              obtain ⟨j, hj, e⟩ := this
              exact ⟨j, by omega, e⟩
            clear hc hcl hcx
            go_wp2_with fail
            go_quiet (fail)
            go_wp2_with fail
            go_roundw
            case rel => exact ⟨q + 1, by omega, by go_num, BoolIs.of _ hz2.out, hdr.step _⟩
            case measure => simp [intOf] <;> omega
          | false =>
            have hz2 : Hid ((gd U q == x) = decide (∃ j, j < q + 1 ∧ gd U j = x)) := by
              show _ = _
              have := hz.out
              rw [eq_comm, decide_eq_false_iff_not] at this
              rw [Bool.eq_iff_iff, beq_iff_eq, decide_eq_true_eq]
              constructor
              · intro e; exact ⟨q, by omega, e⟩
              · rintro ⟨j, hj, e⟩
                by_cases ej : j = q
                · subst ej; exact e
                · exact absurd ⟨j, by omega, e⟩ this
            obtain ⟨y, hy⟩ : ∃ y, (gd U q == x) = y := ⟨_, rfl⟩
            rw [hy] at hz2
            clear hc
            go_wp2_with fail
            go_quiet (fail)
            go_wp2_with fail
            go_roundw
            case rel => exact ⟨q + 1, by omega, by go_num, BoolIs.of _ hz2.out, hdr.step _⟩
            case measure => simp [intOf] <;> omega
        · obtain rfl : U.length = q := by omega
          have hzm : Hid (z = decide (x ∈ U)) := by
            show _ = _
            rw [hz.out, Bool.eq_iff_iff, decide_eq_true_eq, decide_eq_true_eq, mem_iff_gd]
          have hcx := hcI.out _ hdr
          have hM2 := hM.drawn hdr
          have hg2 := hdr.grown hg
          have hws2 : w.heap.size ≤ wr.heap.size := hg2.size
          cases z with
          | true =>
            clear hF hc
            go_wp2_with fail
            go_roundw
            case rel => exact ⟨k + 1, U, by omega, by go_num, hM2, hnd, hsub, by omega, fun _ e => by
              have := hzm.out; rw [e] at this; simp at this, hg2⟩
            case measure => simp [intOf] <;> omega
          | false =>
            have hxU : Hid (x ∉ U) := by show ¬ _; have := hzm.out; simpa using this.symm
            have hgA := World.grownBy_alloc wr (.cells #[.int .i64 x] 3) none
            clear hF hc
            go_wp2_with (at_builtin; refine wpList_append_own _ rfl _ _ 23 rfl w.heap.size 3 i0 (.int .i64 0) 1 8 Try.underlying23 hi0 hz0 hz1 hz2 rfl (by decide) (.slice A1 U.length k1) U.length (U.map (Value.int .i64)) rfl (World.ownsRow.alloc hM2 _) ⟨wr.heap.size, 0, none⟩ 1 1 [.int .i64 x] rfl rfl (cell_one_new _ _ _) (by simp [Value.oneCell']) (by unfold maxLen; omega) (by omega) (by simp; omega) ?_; intro v' w5 hown hgrow _)
            go_roundw
            case rel =>
              refine ⟨k + 1, U ++ [x], by omega, by go_num, Mine.add hown, ?_, ?_, by simp; omega, fun _ => by simp, (hM2.keep hgA).far (grown_alloc hg2 _) (Nat.le_refl _) hgrow⟩
              · show List.Nodup _
                rw [List.nodup_append]
                exact ⟨hnd.out, by simp, fun a ha b hb e => by simp at hb; subst hb; subst e; exact hxU.out ha⟩
              · intro y hy
                rw [List.mem_append] at hy
                rcases hy with hy | hy
                · exact hsub.out y hy
                · simp at hy; subst hy; exact hxm.out
            case measure => simp [intOf] <;> omega
    · obtain rfl : xs.length = k := by omega
      go_wp2_with fail
      go_ret
      exact ⟨A1, k1, U, rfl, hc1, hM, hnd.out, hsub.out, hUk, fun h => hne.out (List.length_pos_iff.2 h), hg⟩
theorem putRes_ok {ns : List Int} {m : Nat} {n : Int} (h0 : 0 ≤ n) (h1 : n ∉ ns) (h2 : ns.length < m) : putRes ns m n = 0 := putRes_zero h0 h1 h2
set_option maxRecDepth 100000 in
set_option maxHeartbeats 4000000 in
theorem filled_ok (A0 : Option Addr) (c0 : Nat) (l : List Int) (N more m : Nat) (hN : l.length = N) (hm : N + more = m) (h1 : 1 ≤ m) (h2 : m ≤ 1024) (hnd : l.Nodup) (h0 : ∀ x ∈ l, 0 ≤ x) (z : Int) (hz : z = more) (w : World) (lo hi : Nat) (hs : SlA w lo hi .i64 A0 l) :
    Calls Try.prog 17 #[.slice A0 N c0, .int .i64 z] w fun e w' => ∃ B M f c, e = .returned (.pointer (some ⟨B, 0, none⟩)) ∧ Rg w' B M m l f c ∧ w.heap.size ≤ M ∧ w.heap.size ≤ B ∧ w.grownBy w' none := by
  subst hz
  have hK := Lib.hid (fun wr (h : w.grownBy wr none) => hs.kept h (by simp))
  have hmI : (N : Int) + (more : Int) = m := by omega
  have hml : more ≤ 1024 := by omega
  have hNl : N ≤ 1024 := by omega
  replace hmI := Lib.hid hmI
  replace hN := Lib.hid hN
  have hres : Hid (∀ k, k < N → putRes (l.take k) m (gd l k) = 0) := fun k hk => by
    have hkl : k < l.length := by rw [hN.out]; exact hk
    refine putRes_zero (h0 _ (gd_mem hkl)) (fun hmem => ?_) (by rw [List.length_take]; omega)
    rw [gd_lt hkl] at hmem
    rw [List.mem_iff_getElem] at hmem
    obtain ⟨i, hi', he⟩ := hmem
    rw [List.length_take] at hi'
    rw [List.getElem_take] at he
    have := (List.getElem_inj hnd).1 he
    omega
  clear hs hnd h0 hm
  go_enter Try.func17, Try.ntmps17
  go_wp2_with fail
  refine (new_ok m _ hmI.out h1 h2 _).mono ?_; rintro e wa ⟨B, M, rfl, hR, hM, hB, hg⟩
  go_wp2_with fail
  go_loopw [7] (fun i wr => ∃ (k f : Nat) (c : Nat → Int), k ≤ N ∧ i = .int .i64 k ∧ Rg wr B M m (l.take k) f c ∧ w.grownBy wr none) (fun i _ => N - (intOf i).toNat)
  case atStart => exact ⟨0, _, _, Nat.zero_le _, rfl, hR, hg⟩
  case round =>
    obtain ⟨k, f, c, hk, rfl, hR, hg⟩ := hrel
    by_cases hlt : k < N
    · have hkl : k < l.length := by rw [hN.out]; exact hlt
      obtain ⟨b, o, rfl, hc⟩ := (hK.out _ hg).at hkl
      have hts := Lib.hid (take_snoc hkl)
      have hr := Lib.hid (hres.out k hlt)
      clear hkl
      go_wp2_with fail
      refine (put_ok (gd l k) hr.out hR).mono ?_; rintro e w1 ⟨rfl, ⟨f1, c1, hR1⟩, g1⟩
      have hg1 := fr_step hg g1 hB hM
      go_wp2_with fail
      go_roundw
      case rel => exact ⟨k + 1, f1, c1, by omega, by go_num, by rw [← hts.out]; exact hR1, hg1⟩
      case measure => simp [intOf] <;> omega
    · obtain rfl : N = k := by omega
      rw [List.take_of_length_le (by rw [hN.out]; exact Nat.le_refl _)] at hR
      go_wp2_with fail
      go_ret
      exact ⟨B, M, f, c, rfl, hR, hM, hB, hg⟩
end Go.Proofs.Ytmjcanamfijdjaa
