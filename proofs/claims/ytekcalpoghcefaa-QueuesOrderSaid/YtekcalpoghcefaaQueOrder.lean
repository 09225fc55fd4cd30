/- QueuesOrder. -/
import Derived.Test.YtekcalpoghcefaaQueA
import Derived.Laws.AppendOwnNone
namespace Go.Proofs.Ytekcalpoghcefaa
open Go.RowKit Go.Shelf Tk
set_option linter.unusedVariables false
set_option linter.unusedSimpArgs false

theorem run_append_nil_any {P : Program} {w : World} (base : Nat) (t ty e : TypeId) (i : TypeInfo) (size : Nat) (ht : P.underlying t = some (.slice e)) (hi : P.info? e = some i)
    (v : Value) (n m c : Nat) (hm : m = 0) (xs : List Value) (hown : w.ownsRow base e size v n xs) :
    (Builtin.append_ #[t, t] ty #[v, .slice none m c]).run P w = .ok v w := by
  subst hm
  rcases hown.2 with ⟨rfl, rfl⟩ | ⟨g, cap, cur, rfl, _, _, hnc, _⟩
  · simp [Builtin.append_, run_underlying ht, sizeOf, typeInfo, hi, Builtin.lenOf, Builtin.firstCells]
  · simp [Builtin.append_, run_underlying ht, sizeOf, typeInfo, hi, Builtin.lenOf, Builtin.firstCells, hnc, storeCells]
theorem wpList_append_nil_any {P : Program} {w : World} {ops : Array Oper} {rest : List Oper} {o : Oper} {a : Act} {Q : Exit → Act → World → Prop} (hgd : o.guard = none) (s x : Operand) (t : TypeId)
    (ho : o.op = .call { callee := .builtin .append, args := #[s, x], argTypes := #[t, t] })
    (base : Nat) (e : TypeId) (i : TypeInfo) (size : Nat) (ht : P.underlying t = some (.slice e)) (hi : P.info? e = some i)
    (v : Value) (n m c : Nat) (hm : m = 0) (xs : List Value) (hs : a.eval s = v) (hown : w.ownsRow base e size v n xs) (hx : a.eval x = .slice none m c)
    (h : wpList P ops Q rest (a.put o.dst v) w) : wpList P ops Q (o :: rest) a w := by
  refine wpList_plain hgd fun K hK => ?_
  have hrun := run_append_nil_any (P := P) (w := w) base t o.type e i size ht hi v n m c hm xs hown
  unfold Oper.wp
  simp [execOp, ho, resolve, invoke, builtin, hs, hx, hrun, Result.andThen]
  exact hK _ _ h
theorem SlA_src' {w : World} {lo hi : Nat} {k : IntKind} {ad : Addr} {xs : List Int} (h : SlA w lo hi k (some ad) xs) : ∀ j u, (xs.map (Value.int k))[j]? = some u → w.cell? (ad.add j) = some u := by
  intro j u hu
  have hj : j < xs.length := by
    by_cases hj : j < xs.length
    · exact hj
    · rw [List.getElem?_eq_none (by simpa using hj)] at hu; cases hu
  rcases h.2 with h' | ⟨b, o, hA, -⟩
  · rw [h'] at hj; simp at hj
  · cases hA
    have e0 : ((⟨b, o, none⟩ : Addr).add j) = ⟨b, o + j, none⟩ := by
      unfold Addr.add; by_cases hi0 : j = 0 <;> simp [hi0]
    rw [e0, h.cell hj, gd_lt hj]
    rw [List.getElem?_map, List.getElem?_eq_getElem hj] at hu
    exact hu
theorem gd_reverse {xs : List Int} {k : Nat} (hk : k < xs.length) : gd xs (xs.length - 1 - k) = gd xs.reverse k := by
  rw [gd_lt (by omega), gd_lt (by simpa using hk), List.getElem_reverse]
theorem SlA_drop {w : World} {lo hi : Nat} {k : IntKind} {b o : Nat} {xs : List Int} (h : SlA w lo hi k (some ⟨b, o, none⟩) xs) (m : Nat) : SlA w lo hi k (some ⟨b, o + m, none⟩) (xs.drop m) := by
  refine ⟨h.1, ?_⟩
  rcases h.2 with rfl | ⟨b', o', hA, h1, h2, hc⟩
  · left; simp
  · cases hA
    right; exact ⟨b, o + m, rfl, h1, h2, fun i hi => by
      have := hc (m + i) (by simp at hi; omega)
      rw [show o + m + i = o + (m + i) by omega, this]; simp⟩
theorem new_at (m : Nat) (x : Int) (hx : x = m) (h1 : 1 ≤ m) (h2 : m ≤ 64) (w : World) :
    Calls Try.prog 15 #[.int .i64 x] w fun e w' => e = .returned (.tuple #[.pointer (some ⟨w.heap.size, 0, none⟩), .int .i64 0]) ∧ Que w' w.heap.size m [] 0 (fun _ => 0) ∧ w.grownBy w' none ∧ w'.heap.size = w.heap.size + 1 := by
  subst hx; exact new_ok m h1 h2 w
/-- Behind so many rounds, what the queue has. -/
def mix (P U : List Int) (k : Nat) : List Int := (U.take k).reverse ++ P.take k
theorem mix_len (P U : List Int) (k : Nat) : (mix P U k).length ≤ P.length + U.length := by simp [mix]; omega
theorem mix_both {P U : List Int} {k : Nat} (h1 : k < P.length) (h2 : k < U.length) : mix P U (k + 1) = gd U k :: (mix P U k ++ [gd P k]) := by
  unfold mix
  rw [← take_snoc h1, ← take_snoc h2]; simp
theorem mix_put {P U : List Int} {k : Nat} (h1 : k < P.length) (h2 : U.length ≤ k) : mix P U (k + 1) = mix P U k ++ [gd P k] := by
  unfold mix
  rw [← take_snoc h1, List.take_of_length_le (l := U) (i := k + 1) (by omega), List.take_of_length_le (l := U) (i := k) h2]; simp
theorem mix_push {P U : List Int} {k : Nat} (h1 : P.length ≤ k) (h2 : k < U.length) : mix P U (k + 1) = gd U k :: mix P U k := by
  unfold mix
  rw [← take_snoc h2, List.take_of_length_le (l := P) (i := k + 1) (by omega), List.take_of_length_le (l := P) (i := k) h1]; simp
theorem mix_all {P U : List Int} {k : Nat} (h1 : P.length ≤ k) (h2 : U.length ≤ k) : mix P U k = U.reverse ++ P := by
  unfold mix
  rw [List.take_of_length_le h1, List.take_of_length_le h2]
theorem drop_cons {xs : List Int} {k : Nat} (h : k < xs.length) : xs.drop k = gd xs k :: xs.drop (k + 1) := by
  rw [gd_lt h, List.drop_eq_getElem_cons h]
theorem mix_room {P U : List Int} {k : Nat} : (mix P U k).length = min k U.length + min k P.length := by simp [mix]
set_option maxRecDepth 100000 in
set_option maxHeartbeats 8000000 in
theorem queuesOrder_walk (A0 : Option Addr) (c0 : Nat) (P : List Int) (hl0 : P.length ≤ c0) (A1 : Option Addr) (c1 : Nat) (U : List Int) (hl1 : U.length ≤ c1) (w : World)
    (hs0 : SlA w 0 w.heap.size .u32 A0 P) (hf0 : ∀ x ∈ P, (Lit.int .u32 x).wf = true) (hb0 : P.length * 4 ≤ 140737488351232) (hs1 : SlA w 0 w.heap.size .u32 A1 U) (hf1 : ∀ x ∈ U, (Lit.int .u32 x).wf = true) (hb1 : U.length * 4 ≤ 140737488351232) :
    Calls Try.prog 4 #[.slice A0 P.length c0, .slice A1 U.length c1] w fun e w' => e = .returned (.bool true) ∧ w.grownBy w' none := by
  clear hf0 hf1
  by_cases hlen : 64 < P.length ∨ 64 < P.length + U.length
  · have hd : decide ((64 : Int) < (P.length : Int)) = true ∨ (decide ((64 : Int) < (P.length : Int)) = false ∧ decide ((64 : Int) < (P.length : Int) + (U.length : Int)) = true) := by
      simp only [decide_eq_true_eq, decide_eq_false_iff_not]; omega
    clear hlen
    rcases hd with hd | ⟨hd, hd2⟩
    all_goals
      go_enter Try.func4, Try.ntmps4
      go_wp2_with fail
      refine (alive_any _).mono ?_; rintro e wd ⟨rfl, hg⟩
      go_wp2_with fail
      refine (alive_any _).mono ?_; rintro e we ⟨rfl, hg2⟩
      go_wp2_with fail
      go_ret
      exact ⟨rfl, grown_trans hg hg2⟩
  · obtain ⟨i0, hi, hz0, hz1, hz2⟩ := info_parts infoWord
    have hz2' := hz2
    have hn : P.length + U.length ≤ 64 := by omega
    have hd : decide ((64 : Int) < (P.length : Int)) = false := by simp; omega
    have hd2 : decide ((64 : Int) < (P.length : Int) + (U.length : Int)) = false := by simp; omega
    clear hlen
    obtain ⟨M, hM⟩ : ∃ M : Nat, (1 < P.length + U.length ∧ M = P.length + U.length) ∨ (¬ 1 < P.length + U.length ∧ M = 1) := by
      by_cases h : 1 < P.length + U.length
      · exact ⟨_, .inl ⟨h, rfl⟩⟩
      · exact ⟨_, .inr ⟨h, rfl⟩⟩
    have hM2 : 1 ≤ M ∧ M ≤ 64 ∧ P.length + U.length ≤ M := by
      omega
    have hK0 := Lib.hid (fun wr (h : w.grownBy wr none) => hs0.kept h (by simp))
    have hK1 := Lib.hid (fun wr (h : w.grownBy wr none) => hs1.kept h (by simp))
    clear hs0 hs1
    go_enter Try.func4, Try.ntmps4
    go_wp2_with fail
    refine (alive_any _).mono ?_; rintro e wd ⟨rfl, hg⟩
    have hwd := hg.size
    replace hM2 := Lib.hid hM2
    have hx : ∀ x : Int, (x = (P.length : Int) + (U.length : Int) ∧ M = P.length + U.length) ∨ (x = 1 ∧ M = 1) → x = M := by omega
    replace hx := Lib.hid hx
    rcases hM with ⟨d3, hM⟩ | ⟨d3, hM⟩
    all_goals
      replace hM := Lib.hid hM
      go_wp2_with fail
      refine (new_at M _ (hx.out _ (by first | exact .inl ⟨rfl, hM.out⟩ | exact .inr ⟨rfl, hM.out⟩)) hM2.out.1 hM2.out.2.1 _).mono ?_; rintro e wa ⟨rfl, hQ, hga, hsz⟩
      have hgw := grown_trans hg hga
      obtain ⟨B, hB⟩ : ∃ B, wd.heap.size = B := ⟨_, rfl⟩
      have hBw : w.heap.size ≤ B := by omega
      rw [hB] at hQ ⊢
      have hwa : wa.heap.size = B + 1 := by omega
      clear hB hsz hga
      have hUl : U.reverse.length = U.length := List.length_reverse
      go_wp2_with fail
      go_loopw [8, 9] (fun v i wr => ∃ k : Nat, k ≤ U.length ∧ i = .int .i64 k ∧ Mine wr (B + 1) 22 .u32 v (U.reverse.take k) ∧ wa.grownBy wr none) (fun _ i _ => U.length - (intOf i).toNat)
      case atStart => exact ⟨0, Nat.zero_le _, rfl, Mine.nil _ _ _ _, grown_refl _ _⟩
      case round =>
        obtain ⟨k, hk, rfl, hM0, hg1⟩ := hrel
        have htl : (U.reverse.take k).length = k := by rw [List.length_take]; omega
        have hg2 := grown_trans hgw hg1
        have hws := hg1.size
        obtain ⟨A2, k2, rfl, hc1, hc2, -⟩ := hM0.form
        rw [htl] at hM0 hc1 ⊢
        by_cases hlt : k < U.length
        · obtain ⟨z, hz, hzz⟩ : ∃ z : Nat, ((U.length : Int) - 1 - (k : Int)) = z ∧ z = U.length - 1 - k := ⟨U.length - 1 - k, by omega, rfl⟩
          have hzl : z < U.length := by omega
          obtain ⟨b, o, rfl, hc⟩ := (hK1.out _ hg2).at hzl
          rw [hzz, gd_reverse hlt, ← hzz] at hc
          have hts := Lib.hid (take_snoc (xs := U.reverse) (k := k) (by omega))
          have hrow : wr.ownsRow (B + 1) 22 1 (.slice A2 k k2) k ((U.reverse.take k).map (Value.int .u32)) := by
            have := hM0; unfold Mine at this; rwa [htl] at this
          replace hrow := Lib.hid hrow
          have hgA := World.grownBy_alloc wr (.cells #[.int .u32 (gd U.reverse k)] 22) none
          generalize gd U.reverse k = x at *
          clear hzz
          go_wp2_with (at_builtin; refine wpList_append_own _ rfl _ _ 34 rfl (B + 1) 22 i0 (.int .u32 0) 1 4 Try.underlying34 hi hz0 hz1 hz2' rfl (by decide) (.slice A2 k k2) k ((U.reverse.take k).map (Value.int .u32)) rfl (World.ownsRow.alloc hrow.out _) ⟨wr.heap.size, 0, none⟩ 1 1 [.int .u32 x] rfl rfl (cell_one_new _ _ _) (by simp [Value.oneCell']) (by unfold maxLen; omega) (by omega) (by simp; omega) ?_; intro v' w5 hown hgrow _)
          go_roundw
          case rel =>
            refine ⟨k + 1, by omega, by go_num, ?_, (hM0.keep hgA).far (grown_alloc hg1 _) (by omega) hgrow⟩
            rw [← hts.out]
            have hown' : w5.ownsRow (B + 1) 22 1 v' ((U.reverse.take k).length + 1) ((U.reverse.take k).map (Value.int .u32) ++ [.int .u32 x]) := by rw [htl]; exact hown
            exact Mine.add hown'
          case measure => simp [intOf]; omega
        · obtain rfl : k = U.length := by omega
          rw [show U.reverse.take U.length = U.reverse from List.take_of_length_le (by omega)] at hM0
          have hrow : wr.ownsRow (B + 1) 22 1 (.slice A2 U.length k2) U.length (U.reverse.map (Value.int .u32)) := by
            have := hM0; unfold Mine at this; rwa [hUl] at this
          replace hrow := Lib.hid hrow
          have hP := hK0.out _ hg2
          have hQ1 := hQ.keep hg1
          have hall : Hid (∀ (v' : Value) (w5 : World), w5.ownsRow (B + 1) 22 1 v' (U.length + P.length) (U.reverse.map (Value.int .u32) ++ P.map (Value.int .u32)) → Mine w5 (B + 1) 22 .u32 v' (U.reverse ++ P)) := by
            intro v' w5 h; unfold Mine; simpa using h
          rcases A0 with _ | ad
          · have hP0 : P.length = 0 := by
              rcases hP.2 with h | ⟨b, o, h, -⟩
              · rw [h]; rfl
              · cases h
            have hv8 : Hid (Mine wr (B + 1) 22 .u32 (.slice A2 U.length k2) (U.reverse ++ P)) := by
              have : P = [] := List.length_eq_zero_iff.1 hP0
              rw [this, List.append_nil]; exact hM0
            replace hP0 := Lib.hid hP0
            go_wp2_with (at_builtin; refine wpList_append_nil_any rfl _ _ 34 rfl (B + 1) 22 i0 1 Try.underlying34 hi (.slice A2 U.length k2) U.length P.length c0 hP0.out (U.reverse.map (Value.int .u32)) rfl hrow.out rfl ?_)
            have hn8 : Hid (U.length = U.length + P.length) := by have := hP0.out; show _ = _; omega
            have hg8 := hg2
            have hQ8 := hQ1
            have hstart : ∃ f c, Que wr B M (mix P U 0) f c := ⟨_, _, hQ8⟩
            obtain ⟨fs, cs, hQs⟩ := hstart
            clear hQ8
            go_loopw [10] (fun i wr2 => ∃ (k f : Nat) (c : Nat → Int), (k ≤ P.length ∨ k ≤ U.length) ∧ i = .int .i64 k ∧ Que wr2 B M (mix P U k) f c ∧ Mine wr2 (B + 1) 22 .u32 (.slice A2 U.length k2) (U.reverse ++ P) ∧ w.grownBy wr2 none) (fun i _ => P.length + U.length - (intOf i).toNat)
            case atStart => exact ⟨0, fs, cs, .inl (Nat.zero_le _), rfl, hQs, hv8.out, hg8⟩
            case round =>
              obtain ⟨k, f, c, hk, rfl, hQ, hv, hg⟩ := hrel
              replace hk := Lib.hid hk
              have hroom := mix_room (P := P) (U := U) (k := k)
              replace hroom := Lib.hid hroom
              by_cases hp : k < P.length
              · exfalso; have := hP0.out; omega
              · by_cases hu : k < U.length
                · have hmx := Lib.hid (mix_push (by omega : P.length ≤ k) hu)
                  obtain ⟨b2, o2, rfl, hc2⟩ := (hK1.out _ hg).at hu
                  generalize hye : gd U k = y at *
                  go_wp2_with fail
                  refine (push_ok y _ hQ (by have := hM2.out; have := hroom.out; omega)).mono ?_; rintro e w2 ⟨rfl, ⟨f2, c2, hQ2⟩, g2⟩
                  go_wp2_with fail
                  go_roundw
                  case rel => exact ⟨k + 1, f2, c2, by omega, by go_num, by rw [hmx.out]; exact hQ2, hv.keepB g2 (by omega), grown_step hg g2 hBw⟩
                  case measure => simp [intOf]; omega
                · rw [mix_all (by omega) (by omega)] at hQ
                  go_wp2_with fail
                  obtain ⟨W8, hW8⟩ : ∃ W8, U.reverse ++ P = W8 := ⟨_, rfl⟩
                  have hWl : W8.length = P.length + U.length := by rw [← hW8]; simp; omega
                  rw [hW8] at hQ hv
                  replace hWl := Lib.hid hWl
                  go_loopw [11, 12, 13, 14, 15, 16] (fun i _ _ _ _ _ wr3 => ∃ (k f : Nat) (c : Nat → Int), k ≤ P.length + U.length ∧ i = .int .i64 k ∧ Que wr3 B M (W8.drop k) f c ∧ Mine wr3 (B + 1) 22 .u32 (.slice A2 U.length k2) W8 ∧ w.grownBy wr3 none) (fun i _ _ _ _ _ _ => P.length + U.length - (intOf i).toNat)
                  case atStart => exact ⟨0, f, c, Nat.zero_le _, rfl, hQ, hv, hg⟩
                  case round =>
                    obtain ⟨k3, f3, c3, hk3, rfl, hQ3, hv3, hg3⟩ := hrel
                    by_cases hlt3 : k3 < P.length + U.length
                    · have hdc := drop_cons (xs := W8) (k := k3) (by rw [hWl.out]; exact hlt3)
                      have hB3 := hQ3.arr.lt
                      have hdl : (W8.drop k3).length = P.length + U.length - k3 := by rw [List.length_drop, hWl.out]
                      have hls := list_ok _ hQ3
                      rw [hdl] at hls
                      obtain ⟨L3, hL3⟩ : ∃ L3, P.length + U.length - k3 = L3 := ⟨_, rfl⟩
                      rw [hL3] at hls hdl
                      replace hls := Lib.hid hls
                      replace hL3 := Lib.hid hL3
                      replace hdl := Lib.hid hdl
                      replace hdc := Lib.hid hdc
                      go_wp2_with fail
                      refine hls.out.mono ?_; rintro e w1 ⟨AL, kL, rfl, hkL, hML, g1⟩
                      have hQ4 := hQ3.keep g1
                      have hv4 := hv3.keep g1
                      have hg4 := grown_trans hg3 g1
                      rw [hdc.out] at hQ4
                      go_wp2_with fail
                      refine (peek_ok _ hQ4).mono ?_; rintro e w' ⟨rfl, nq, rfl⟩
                      have hQ5 := hQ4.keep (grown_drewN (grown_refl w1 none) nq)
                      have hv5 := hv4.drewN nq
                      have hg5 := grown_drewN hg4 nq
                      have hL5 := Drawn.sl ⟨nq, rfl⟩ hML.sl
                      obtain ⟨W5, hW5⟩ : ∃ W5, w1.drewN nq = W5 := ⟨_, rfl⟩
                      rw [hW5] at hQ5 hv5 hg5 hL5 ⊢
                      clear hW5 hQ4 hv4 hg4 hML hQ3 hv3 hg3
                      go_wp2_with fail
                      refine (take_ok _ hQ5).mono ?_; rintro e w6 ⟨rfl, ⟨f6, hQ6⟩, g6⟩
                      have hv6 := hv5.keepB g6 (by omega)
                      have hg6 := grown_step hg5 g6 hBw
                      have hL6 := hL5.kept g6 (by intro b hb; cases hb; left; omega)
                      obtain ⟨A9, k9, e9, hk9, -, hF9⟩ := hv6.form
                      simp only [Value.slice.injEq] at e9
                      obtain ⟨rfl, hN9, rfl⟩ := e9
                      rcases hF9 with ⟨-, h9⟩ | ⟨g9, rfl, -, -⟩
                      · exfalso; have := hWl.out; rw [h9] at this; simp at this; omega
                      have hcw := hv6.cell (i := k3) (by have := hWl.out; omega)
                      have hsw := SlA_drop hv6.sl k3
                      rw [Nat.zero_add] at hsw
                      have hxx : (gd W8 k3 != gd W8 k3) = false := by simp
                      replace hN9 := Lib.hid hN9
                      have hkk : k3 < k2 := by have := hWl.out; omega
                      have hkn : k3 < U.length := by have := hWl.out; have := hN9.out; omega
                      clear hv5 hL5 hQ5 hg5
                      have hsd := sameWords_any AL (some ⟨g9, k3, none⟩) kL (k2 - k3) _ _ _ _ (W8.drop k3) (W8.drop k3) w6 (by rw [hdl.out]; exact hkL) (by rw [hdl.out]; have := hL3.out; have := hN9.out; have := hWl.out; omega) (by rw [hdl.out]; have := hL3.out; omega) (by rw [hdl.out]; have := hL3.out; omega) hL6 hsw
                      rw [decide_eq_true rfl, hdl.out] at hsd
                      have hLN : L3 = U.length - k3 := by have := hL3.out; have := hN9.out; have := hWl.out; omega
                      replace hsd := Lib.hid hsd
                      replace hLN := Lib.hid hLN
                      go_wp2_with fail
                      rw [← hLN.out]
                      refine hsd.out.mono ?_; rintro e w7 ⟨rfl, n7, rfl⟩
                      have hQ7 := hQ6.keep (grown_drewN (grown_refl w6 none) n7)
                      have hv7 := hv6.drewN n7
                      have hg7 := grown_drewN hg6 n7
                      go_wp2_with fail
                      go_roundw
                      case rel => exact ⟨k3 + 1, _, _, by omega, by go_num, hQ7, hv7, hg7⟩
                      case measure => simp [intOf]; omega
                    · have hnil : W8.drop k3 = [] := List.drop_eq_nil_iff.2 (by rw [hWl.out]; omega)
                      rw [hnil] at hQ3
                      go_wp2_with fail
                      refine (take_no _ 11 (by decide) _ (peek_empty _ hQ3)).mono ?_; rintro e w' ⟨rfl, rfl⟩
                      go_wp2_with fail
                      refine (list_ok _ hQ3).mono ?_; rintro e w1 ⟨AL, kL, rfl, hkL, hML, g1⟩
                      go_wp2_with fail
                      go_ret
                      exact ⟨rfl, grown_trans hg3 g1⟩
          · have hsrc := Lib.hid (SlA_src' hP)
            go_wp2_with (at_builtin; refine wpList_append_own _ rfl _ _ 34 rfl (B + 1) 22 i0 (.int .u32 0) 1 4 Try.underlying34 hi hz0 hz1 hz2' rfl (by decide) (.slice A2 U.length k2) U.length (U.reverse.map (Value.int .u32)) rfl hrow.out ad P.length c0 (P.map (Value.int .u32)) rfl (by simp) hsrc.out (by simp [Value.oneCell']) (by unfold maxLen; omega) (by omega) (by omega) ?_; intro v' w5 hown hgrow _)
            have hM8 := hall.out _ _ hown
            obtain ⟨A8, k8, rfl, hc81, hc82, -⟩ := hM8.form
            have hn8' : (U.reverse ++ P).length = U.length + P.length := by simp
            rw [hn8'] at hM8 hc81 ⊢
            have hg8 := hM0.far hg2 (by omega) hgrow
            have hQ8 : Que w5 B M [] 0 fun _ => 0 := ⟨hM0.arr hQ1.arr (by omega) hgrow, hQ1.fl, hQ1.le, hQ1.m64, hQ1.m1, hQ1.get⟩
            have hv8 := Lib.hid hM8
            have hstart : ∃ f c, Que w5 B M (mix P U 0) f c := ⟨_, _, hQ8⟩
            obtain ⟨fs, cs, hQs⟩ := hstart
            clear hQ8
            go_loopw [10] (fun i wr2 => ∃ (k f : Nat) (c : Nat → Int), (k ≤ P.length ∨ k ≤ U.length) ∧ i = .int .i64 k ∧ Que wr2 B M (mix P U k) f c ∧ Mine wr2 (B + 1) 22 .u32 (.slice A8 (U.length + P.length) k8) (U.reverse ++ P) ∧ w.grownBy wr2 none) (fun i _ => P.length + U.length - (intOf i).toNat)
            case atStart => exact ⟨0, fs, cs, .inl (Nat.zero_le _), rfl, hQs, hv8.out, hg8⟩
            case round =>
              obtain ⟨k, f, c, hk, rfl, hQ, hv, hg⟩ := hrel
              replace hk := Lib.hid hk
              have hroom := mix_room (P := P) (U := U) (k := k)
              replace hroom := Lib.hid hroom
              by_cases hp : k < P.length
              · by_cases hu : k < U.length
                · have hmx := Lib.hid (mix_both hp hu)
                  obtain ⟨b, o, e1, hc⟩ := (hK0.out _ hg).at hp
                  cases e1
                  generalize hxe : gd P k = x at *
                  generalize hye : gd U k = y at *
                  replace hye := Lib.hid hye
                  go_wp2_with fail
                  refine (put_ok x _ hQ (by have := hM2.out; have := hroom.out; omega)).mono ?_; rintro e w1 ⟨rfl, ⟨c', hQ1⟩, g1⟩
                  have hg1 := grown_step hg g1 hBw
                  have hv1 := hv.keepB g1 (by omega)
                  obtain ⟨b2, o2, rfl, hc2⟩ := (hK1.out _ hg1).at hu
                  rw [hye.out] at hc2
                  go_wp2_with fail
                  refine (push_ok y _ hQ1 (by have := hM2.out; have := hroom.out; simp; omega)).mono ?_; rintro e w2 ⟨rfl, ⟨f2, c2, hQ2⟩, g2⟩
                  go_wp2_with fail
                  go_roundw
                  case rel => exact ⟨k + 1, f2, c2, by omega, by go_num, by rw [hmx.out]; exact hQ2, hv1.keepB g2 (by omega), grown_step hg1 g2 hBw⟩
                  case measure => simp [intOf]; omega
                · have hmx := Lib.hid (mix_put hp (by omega : U.length ≤ k))
                  obtain ⟨b, o, e1, hc⟩ := (hK0.out _ hg).at hp
                  cases e1
                  generalize hxe : gd P k = x at *
                  go_wp2_with fail
                  refine (put_ok x _ hQ (by have := hM2.out; have := hroom.out; omega)).mono ?_; rintro e w1 ⟨rfl, ⟨c', hQ1⟩, g1⟩
                  go_wp2_with fail
                  go_roundw
                  case rel => exact ⟨k + 1, f, c', by omega, by go_num, by rw [hmx.out]; exact hQ1, hv.keepB g1 (by omega), grown_step hg g1 hBw⟩
                  case measure => simp [intOf]; omega
              · by_cases hu : k < U.length
                · have hmx := Lib.hid (mix_push (by omega : P.length ≤ k) hu)
                  obtain ⟨b2, o2, rfl, hc2⟩ := (hK1.out _ hg).at hu
                  generalize hye : gd U k = y at *
                  go_wp2_with fail
                  refine (push_ok y _ hQ (by have := hM2.out; have := hroom.out; omega)).mono ?_; rintro e w2 ⟨rfl, ⟨f2, c2, hQ2⟩, g2⟩
                  go_wp2_with fail
                  go_roundw
                  case rel => exact ⟨k + 1, f2, c2, by omega, by go_num, by rw [hmx.out]; exact hQ2, hv.keepB g2 (by omega), grown_step hg g2 hBw⟩
                  case measure => simp [intOf]; omega
                · rw [mix_all (by omega) (by omega)] at hQ
                  go_wp2_with fail
                  obtain ⟨W8, hW8⟩ : ∃ W8, U.reverse ++ P = W8 := ⟨_, rfl⟩
                  have hWl : W8.length = P.length + U.length := by rw [← hW8]; simp; omega
                  rw [hW8] at hQ hv
                  replace hWl := Lib.hid hWl
                  go_loopw [11, 12, 13, 14, 15, 16] (fun i _ _ _ _ _ wr3 => ∃ (k f : Nat) (c : Nat → Int), k ≤ P.length + U.length ∧ i = .int .i64 k ∧ Que wr3 B M (W8.drop k) f c ∧ Mine wr3 (B + 1) 22 .u32 (.slice A8 (U.length + P.length) k8) W8 ∧ w.grownBy wr3 none) (fun i _ _ _ _ _ _ => P.length + U.length - (intOf i).toNat)
                  case atStart => exact ⟨0, f, c, Nat.zero_le _, rfl, hQ, hv, hg⟩
                  case round =>
                    obtain ⟨k3, f3, c3, hk3, rfl, hQ3, hv3, hg3⟩ := hrel
                    by_cases hlt3 : k3 < P.length + U.length
                    · have hdc := drop_cons (xs := W8) (k := k3) (by rw [hWl.out]; exact hlt3)
                      have hB3 := hQ3.arr.lt
                      have hdl : (W8.drop k3).length = P.length + U.length - k3 := by rw [List.length_drop, hWl.out]
                      have hls := list_ok _ hQ3
                      rw [hdl] at hls
                      obtain ⟨L3, hL3⟩ : ∃ L3, P.length + U.length - k3 = L3 := ⟨_, rfl⟩
                      rw [hL3] at hls hdl
                      replace hls := Lib.hid hls
                      replace hL3 := Lib.hid hL3
                      replace hdl := Lib.hid hdl
                      replace hdc := Lib.hid hdc
                      go_wp2_with fail
                      refine hls.out.mono ?_; rintro e w1 ⟨AL, kL, rfl, hkL, hML, g1⟩
                      have hQ4 := hQ3.keep g1
                      have hv4 := hv3.keep g1
                      have hg4 := grown_trans hg3 g1
                      rw [hdc.out] at hQ4
                      go_wp2_with fail
                      refine (peek_ok _ hQ4).mono ?_; rintro e w' ⟨rfl, nq, rfl⟩
                      have hQ5 := hQ4.keep (grown_drewN (grown_refl w1 none) nq)
                      have hv5 := hv4.drewN nq
                      have hg5 := grown_drewN hg4 nq
                      have hL5 := Drawn.sl ⟨nq, rfl⟩ hML.sl
                      obtain ⟨W5, hW5⟩ : ∃ W5, w1.drewN nq = W5 := ⟨_, rfl⟩
                      rw [hW5] at hQ5 hv5 hg5 hL5 ⊢
                      clear hW5 hQ4 hv4 hg4 hML hQ3 hv3 hg3
                      go_wp2_with fail
                      refine (take_ok _ hQ5).mono ?_; rintro e w6 ⟨rfl, ⟨f6, hQ6⟩, g6⟩
                      have hv6 := hv5.keepB g6 (by omega)
                      have hg6 := grown_step hg5 g6 hBw
                      have hL6 := hL5.kept g6 (by intro b hb; cases hb; left; omega)
                      obtain ⟨A9, k9, e9, hk9, -, hF9⟩ := hv6.form
                      simp only [Value.slice.injEq] at e9
                      obtain ⟨rfl, hN9, rfl⟩ := e9
                      rcases hF9 with ⟨-, h9⟩ | ⟨g9, rfl, -, -⟩
                      · exfalso; have := hWl.out; rw [h9] at this; simp at this; omega
                      have hcw := hv6.cell (i := k3) (by have := hWl.out; omega)
                      have hsw := SlA_drop hv6.sl k3
                      rw [Nat.zero_add] at hsw
                      have hxx : (gd W8 k3 != gd W8 k3) = false := by simp
                      replace hN9 := Lib.hid hN9
                      have hkk : k3 < k8 := by have := hWl.out; omega
                      have hkn : k3 < (U.length + P.length) := by have := hWl.out; have := hN9.out; omega
                      clear hv5 hL5 hQ5 hg5
                      have hsd := sameWords_any AL (some ⟨g9, k3, none⟩) kL (k8 - k3) _ _ _ _ (W8.drop k3) (W8.drop k3) w6 (by rw [hdl.out]; exact hkL) (by rw [hdl.out]; have := hL3.out; have := hN9.out; have := hWl.out; omega) (by rw [hdl.out]; have := hL3.out; omega) (by rw [hdl.out]; have := hL3.out; omega) hL6 hsw
                      rw [decide_eq_true rfl, hdl.out] at hsd
                      have hLN : L3 = (U.length + P.length) - k3 := by have := hL3.out; have := hN9.out; have := hWl.out; omega
                      replace hsd := Lib.hid hsd
                      replace hLN := Lib.hid hLN
                      go_wp2_with fail
                      rw [← hLN.out]
                      refine hsd.out.mono ?_; rintro e w7 ⟨rfl, n7, rfl⟩
                      have hQ7 := hQ6.keep (grown_drewN (grown_refl w6 none) n7)
                      have hv7 := hv6.drewN n7
                      have hg7 := grown_drewN hg6 n7
                      go_wp2_with fail
                      go_roundw
                      case rel => exact ⟨k3 + 1, _, _, by omega, by go_num, hQ7, hv7, hg7⟩
                      case measure => simp [intOf]; omega
                    · have hnil : W8.drop k3 = [] := List.drop_eq_nil_iff.2 (by rw [hWl.out]; omega)
                      rw [hnil] at hQ3
                      go_wp2_with fail
                      refine (take_no _ 11 (by decide) _ (peek_empty _ hQ3)).mono ?_; rintro e w' ⟨rfl, rfl⟩
                      go_wp2_with fail
                      refine (list_ok _ hQ3).mono ?_; rintro e w1 ⟨AL, kL, rfl, hkL, hML, g1⟩
                      go_wp2_with fail
                      go_ret
                      exact ⟨rfl, grown_trans hg3 g1⟩
end Go.Proofs.Ytekcalpoghcefaa
