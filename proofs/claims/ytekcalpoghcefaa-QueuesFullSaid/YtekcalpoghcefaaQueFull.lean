/- QueuesFull. -/
import Derived.Test.YtekcalpoghcefaaQueA
import Derived.Test.YtekcalpoghcefaaOwnO
namespace Go.Proofs.Ytekcalpoghcefaa
open Go.RowKit Go.Shelf Tk
set_option linter.unusedVariables false
set_option linter.unusedSimpArgs false

/-- So many messages, from v + s on, each 1 more. -/
def vals (v : Int) (s n : Nat) : List Int := (List.range n).map fun j => (v + ((s + j : Nat) : Int)) % 4294967296
theorem vals_len (v : Int) (s n : Nat) : (vals v s n).length = n := by simp [vals]
theorem vals_zero (v : Int) (s : Nat) : vals v s 0 = [] := rfl
theorem vals_succ (v : Int) (s n : Nat) : vals v s (n + 1) = vals v s n ++ [(v + ((s + n : Nat) : Int)) % 4294967296] := by
  unfold vals; rw [List.range_succ, List.map_append]; rfl
theorem vals_cons (v : Int) (s n : Nat) : vals v s (n + 1) = (v + (s : Int)) % 4294967296 :: vals v (s + 1) n := by
  unfold vals; rw [List.range_succ_eq_map, List.map_cons, List.map_map]
  congr 1
  apply List.map_congr_left
  intro j _
  simp only [Function.comp]
  congr 2
  omega
theorem new_at (m : Nat) (x : Int) (hx : x = m) (h1 : 1 ≤ m) (h2 : m ≤ 64) (w : World) :
    Calls Try.prog 15 #[.int .i64 x] w fun e w' => e = .returned (.tuple #[.pointer (some ⟨w.heap.size, 0, none⟩), .int .i64 0]) ∧ Que w' w.heap.size m [] 0 (fun _ => 0) ∧ w.grownBy w' none ∧ w'.heap.size = w.heap.size + 1 := by
  subst hx; exact new_ok m h1 h2 w
theorem Que.mine {W w5 : World} {base B m : Nat} {ms : List Int} {f : Nat} {c : Nat → Int} {e : TypeId} {k : IntKind} {v : Value} {xs : List Int} (hQ : Que W B m ms f c) (hO : Mine W base e k v xs) (hb : B < base) (hgrow : W.grownBy w5 v.ownBlock) : Que w5 B m ms f c :=
  hQ.kept hgrow (fun h => by have := (World.ownsRow.lt hO _ h).1; omega)
set_option maxRecDepth 100000 in
set_option maxHeartbeats 8000000 in
theorem queuesFull_walk (m : Int) (wm : (Lit.int .u8 m).wf = true) (v : Int) (wv : (Lit.int .u32 v).wf = true) (t : Int) (wt : (Lit.int .u8 t).wf = true) (w : World) :
    Calls Try.prog 5 #[.int .u8 m, .int .u32 v, .int .u8 t] w fun e w' => e = .returned (.bool true) ∧ w.grownBy w' none := by
  obtain ⟨i0, hi, hz0, hz1, hz2⟩ := info_parts infoWord
  obtain ⟨m1, m2⟩ := wf_u8 wm
  obtain ⟨t1, t2⟩ := wf_u8 wt
  clear wm wv wt
  obtain ⟨T, rfl⟩ := Int.eq_ofNat_of_zero_le t1
  obtain ⟨N, K, hK, hNK, hK1, hK2⟩ : ∃ N K : Nat, (1 + m % 64) = (N : Int) ∧ N = K + 1 ∧ 1 ≤ N ∧ N ≤ 64 := ⟨(m % 64).toNat + 1, (m % 64).toNat, by omega, rfl, by omega, by omega⟩
  replace hK := Lib.hid hK
  replace hNK := Lib.hid hNK
  clear t1
  have hz2' := hz2
  go_enter Try.func5, Try.ntmps5
  go_wp2_with fail
  refine (new_at N _ hK.out hK1 hK2 _).mono ?_; rintro e wa ⟨rfl, hQ, hgw, hsz⟩
  obtain ⟨B, hB⟩ : ∃ B, w.heap.size = B := ⟨_, rfl⟩
  have hBw : w.heap.size ≤ B := by omega
  rw [hB] at hQ ⊢
  have hwa : wa.heap.size = B + 1 := by omega
  clear hB hsz
  rw [hK.out]
  go_wp2_with fail
  go_loopw [10, 11] (fun a i wr => ∃ (k f : Nat) (c : Nat → Int), k ≤ N ∧ i = .int .i64 k ∧ Que wr B N (vals v 0 k) f c ∧ Mine wr (B + 1) 22 .u32 a (vals v 0 k) ∧ w.grownBy wr none) (fun _ i _ => N - (intOf i).toNat)
  case atStart => exact ⟨0, _, _, Nat.zero_le _, rfl, hQ, Mine.nil _ _ _ _, hgw⟩
  case round =>
    obtain ⟨k, f, c, hk, rfl, hQ, hM, hg1⟩ := hrel
    have htl := vals_len v 0 k
    have hws := hQ.arr.lt
    by_cases hlt : k < N
    · obtain ⟨A2, k2, rfl, hc1, hc2, -⟩ := hM.form
      rw [htl] at hM hc1 ⊢
      have hvs := vals_succ v 0 k
      rw [Nat.zero_add] at hvs
      replace hvs := Lib.hid hvs
      replace htl := Lib.hid htl
      go_wp2_with fail
      refine (put_ok ((v + (k : Int)) % 4294967296) _ hQ (by rw [htl.out]; exact hlt)).mono ?_; rintro e w1 ⟨rfl, ⟨c', hQ1⟩, g1⟩
      generalize (v + (k : Int)) % 4294967296 = x at *
      have hrow : w1.ownsRow (B + 1) 22 1 (.slice A2 k k2) k ((vals v 0 k).map (Value.int .u32)) := by
        have := hM.keepB g1 (by omega); unfold Mine at this; rwa [htl.out] at this
      replace hrow := Lib.hid hrow
      have hM1 := hM.keepB g1 (by omega)
      have hw1 := g1.size
      have hgA := World.grownBy_alloc w1 (.cells #[.int .u32 x] 22) none
      have hg3 : w.grownBy w1 none := grown_step hg1 g1 (by omega)
      have hM1a := hM1.keep hgA
      have hQ1a := hQ1.keep hgA
      go_wp2_with (at_builtin; refine wpList_append_own _ rfl _ _ 34 rfl (B + 1) 22 i0 (.int .u32 0) 1 4 Try.underlying34 hi hz0 hz1 hz2' rfl (by decide) (.slice A2 k k2) k ((vals v 0 k).map (Value.int .u32)) rfl (World.ownsRow.alloc hrow.out _) ⟨w1.heap.size, 0, none⟩ 1 1 [.int .u32 x] rfl rfl (cell_one_new _ _ _) (by simp [Value.oneCell']) (by unfold maxLen; omega) (by omega) (by simp; omega) ?_; intro v' w5 hown hgrow _)
      go_roundw
      case rel =>
        refine ⟨k + 1, f, c', by omega, by go_num, ?_, ?_, hM1a.far (grown_alloc hg3 _) (by omega) hgrow⟩
        · rw [hvs.out]; exact hQ1a.mine hM1a (by omega) hgrow
        · rw [hvs.out]
          have hown' : w5.ownsRow (B + 1) 22 1 v' ((vals v 0 k).length + 1) ((vals v 0 k).map (Value.int .u32) ++ [.int .u32 x]) := by rw [htl.out]; exact hown
          exact Mine.add hown'
      case measure => simp [intOf]; omega
    · obtain rfl : N = k := by omega
      obtain ⟨A2, k2, rfl, hc1, hc2, hF⟩ := hM.form
      rw [htl] at hM hc1 ⊢
      rcases hF with ⟨-, h9⟩ | ⟨g, rfl, -, -⟩
      · rw [h9] at htl; simp at htl; omega
      replace hM := MineO.of hM
      clear hgw hc1 hc2 htl
      go_wp2_with fail
      go_loopw [10, 13, 14, 15, 16] (fun a i _ _ _ wr => ∃ (j f : Nat) (c : Nat → Int), j ≤ T ∧ i = .int .i64 j ∧ Que wr B N (vals v j N) f c ∧ MineO wr (B + 1) .u32 a (vals v j N) ∧ w.grownBy wr none) (fun _ i _ _ _ _ => T - (intOf i).toNat)
      case atStart => exact ⟨0, _, _, Nat.zero_le _, rfl, hQ, hM, hg1⟩
      case round =>
        obtain ⟨j, f, c, hj, rfl, hQ, hM, hg⟩ := hrel
        have hws := hQ.arr.lt
        by_cases hlt2 : j < T
        · have hvc : vals v j N = (v + (j : Int)) % 4294967296 :: vals v (j + 1) K := by rw [hNK.out, vals_cons]
          have hvs : vals v (j + 1) N = vals v (j + 1) K ++ [(v + ((N : Int) + (j : Int))) % 4294967296] := by
            have : ((j + 1 + K : Nat) : Int) = (N : Int) + (j : Int) := by rw [hNK.out]; omega
            rw [show vals v (j + 1) N = vals v (j + 1) (K + 1) by rw [hNK.out], vals_succ, this]
          have hlN := Lib.hid (vals_len v j N)
          have hlK := Lib.hid (vals_len v (j + 1) K)
          replace hvs := Lib.hid hvs
          obtain ⟨b, o, c3, hae, hb1, hb2, hb3, hb4, hb5, hb6⟩ := id hM
          subst hae
          rw [hlN.out] at hM hb3 ⊢
          have hb0 := hb6 0 (by rw [hlN.out]; exact hK1)
          rw [show gd (vals v j N) 0 = (v + (j : Int)) % 4294967296 by rw [hvc]; rfl] at hb0
          replace hb0 := Lib.hid hb0
          rw [hvc] at hM
          clear hb5 hb6
          go_wp2_with fail
          refine (put_no _ _ 10 (by decide) _ (room_full _ hQ hlN.out)).mono ?_; rintro e w1 ⟨rfl, g1⟩
          have hQ1 := hQ.keep g1
          have hg1 := grown_trans hg g1
          have hM1 := hM.keep g1
          go_wp2_with fail
          refine (push_no _ _ 10 (by decide) _ (room_full _ hQ1 hlN.out)).mono ?_; rintro e w2 ⟨rfl, g2⟩
          have hQ2 := hQ1.keep g2
          have hg2 := grown_trans hg1 g2
          have hM2 := hM1.keep g2
          rw [hvc] at hQ2
          replace hvc := Lib.hid hvc
          clear hQ hg hM hQ1 hg1 hM1 g1 g2
          go_wp2_with fail
          refine (take_ok _ hQ2).mono ?_; rintro e w3 ⟨rfl, ⟨f3, hQ3⟩, g3⟩
          have hg3 := grown_step hg2 g3 hBw
          have hM3 := hM2.kept g3 (by intro b hb; cases hb; omega)
          clear hQ2 hg2 hM2 g3
          have hb0 : w3.cell? ⟨b, o, none⟩ = some (.int .u32 ((v + (j : Int)) % 4294967296)) := by
            obtain ⟨b', o', c', e1, -, -, -, -, -, h6⟩ := hM3
            cases e1
            exact h6 0 (by simp)
          have hKN : (vals v (j + 1) K).length < N := by rw [hlK.out, hNK.out]; exact Nat.lt_succ_self K
          replace hKN := Lib.hid hKN
          go_wp2_with fail
          refine (put_ok ((v + ((N : Int) + (j : Int))) % 4294967296) _ hQ3 hKN.out).mono ?_; rintro e w4 ⟨rfl, ⟨c4, hQ4⟩, g4⟩
          have hg4 := grown_step hg3 g4 hBw
          have hM4 := hM3.kept g4 (by intro b hb; cases hb; omega)
          rw [← hvs.out] at hQ4
          clear hQ3 hg3 hM3 g4 hb0
          generalize hxx : (v + ((N : Int) + (j : Int))) % 4294967296 = x at *
          replace hxx := Lib.hid hxx
          have hNK1 : K = N - 1 := by rw [hNK.out]; rfl
          have ht := MineO.tail hM4
          rw [hlK.out] at ht
          have ht1 : Hid (∀ W, w4.grownBy W none → MineO W (B + 1) .u32 (.slice (some ⟨b, o + 1, none⟩) (N - 1) (c3 - 1)) (vals v (j + 1) K)) := fun W h => by rw [← hNK1]; exact ht.1.keep h
          have ht0 : Hid (∀ W, w4.grownBy W none → c3 = 1 → MineO W (B + 1) .u32 (.slice (some ⟨b, o, none⟩) (N - 1) 0) (vals v (j + 1) K)) := fun W h h1 => by
            have h0 : K = 0 := by omega
            subst h0
            rw [← hNK1, vals_zero]; exact (ht.2 (vals_zero _ _)).keep h
          have hgA := World.grownBy_alloc w4 (.cells #[.int .u32 x] 22) none
          have hws4 := hQ4.arr.lt
          replace hNK1 := Lib.hid hNK1
          clear ht hM4
          go_wp2_with (at_builtin; refine wpList_append_mineO _ rfl _ _ 34 rfl (B + 1) 22 i0 .u32 (.int .u32 0) 4 Try.underlying34 hi hz0 hz1 hz2' rfl _ (vals v (j + 1) K) rfl ?hM ⟨w4.heap.size, 0, none⟩ 1 x rfl (cell_one_new _ _ _) ?b1 ?b2 ?hb ?hK)
          case hM.inl => exact ht0.out _ hgA (by assumption)
          case hM.inr => exact ht1.out _ hgA
          case b1 => rw [hlK.out]; unfold maxLen; have := hNK1.out; omega
          case b2 => rw [hlK.out]; have := hNK1.out; omega
          case hb => rw [World.size_alloc]; omega
          all_goals
            rintro v' w5 hM5 row hg5 hrow
            replace hrow := Lib.hid hrow
            rw [← hvs.out] at hM5
            have hQ5 : Que w5 B N (vals v (j + 1) N) f3 c4 := (hQ4.keep hgA).kept hg5 (by intro hr; have := hrow.out B hr; omega)
            have hg5' : w.grownBy w5 none := by
              rcases row with _ | r
              · exact grown_trans (grown_trans hg4 hgA) hg5
              · exact grown_step (grown_trans hg4 hgA) hg5 (by have := hrow.out r rfl; omega)
            obtain ⟨b5, o5, c5, rfl, -, -, hb53, -⟩ := id hM5
            have hlN5 := Lib.hid (vals_len v (j + 1) N)
            rw [hlN5.out] at hM5 hb53
            clear hb1 hb2 hb3 hb4
            go_wp2_with fail
            refine (list_ok _ hQ5).mono ?_; rintro e w6 ⟨A6, k6, rfl, hk6, hM6, g6⟩
            have hs5 := hM5.sl
            have hg6 := grown_trans hg5' g6
            have hQ6 := hQ5.keep g6
            have hM5b := hM5.keep g6
            go_wp2_with fail
            refine (sameWords_any _ _ _ _ _ _ _ _ (vals v (j + 1) N) (vals v (j + 1) N) _ hk6 (by rw [hlN5.out]; exact hb53) (by rw [hlN5.out]; omega) (by rw [hlN5.out]; omega) hM6.sl (by have := hM5b.sl; exact this)).mono ?_; rw [decide_eq_true rfl]; rintro e w7 ⟨rfl, n7, rfl⟩
            have hQ7 := hQ6.keep (grown_drewN (grown_refl w6 none) n7)
            have hg7 := grown_drewN hg6 n7
            have hM7 := hM5b.drewN n7
            go_wp2_with fail
            go_roundw
            case rel => exact ⟨j + 1, f3, c4, by omega, by go_num, hQ7, by rw [hlN5.out]; exact hM7, hg7⟩
            case measure => simp [intOf]; omega
        · go_wp2_with fail
          refine (alive_any _).mono ?_; rintro e wd ⟨rfl, hg2⟩
          go_wp2_with fail
          go_ret
          exact ⟨rfl, grown_trans hg hg2⟩
end Go.Proofs.Ytekcalpoghcefaa
