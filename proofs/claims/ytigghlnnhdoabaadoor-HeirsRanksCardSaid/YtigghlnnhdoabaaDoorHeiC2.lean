/- Package heirs: Circle, whole. -/
import Derived.Test.YtigghlnnhdoabaaDoorHeiC
namespace Go.Proofs.YtigghlnnhdoabaaDoor
open Go.RowKit Go.Shelf Tk Tk.Hei
set_option linter.unusedVariables false
set_option linter.unusedSimpArgs false
attribute [local go_sem] Oper.semAt_some

/-- What Circle tells. -/
def Circ (ws : List Int) (who whom : Int) : Prop := Okw ws ∧ 0 ≤ who ∧ who < ws.length ∧ 0 ≤ whom ∧ whom < ws.length ∧ Tk.Hei.Reach ws whom who
theorem contains_yes (X : Nat) (A : Option Addr) (c lo hi : Nat) (ws : List Int) (hm : ws.length ≤ 1000000) (hok : Okw ws) (w : World) (hX : w.cell? ⟨X, 0, none⟩ = some (.slice A ws.length c)) (hs : SlA w lo hi .i64 A ws) :
    Calls Tryd.prog 41 #[.slice A ws.length c, .func (.func 40) #[] #[.pointer (some ⟨X, 0, none⟩)]] w fun e w' => e = .returned (.bool false) ∧ w = w' :=
  (contains_ok X A c lo hi ws hm w hX hs).mono fun e w' ⟨q, he, hq, hw⟩ => by
    rcases hq with ⟨rfl, -⟩ | ⟨-, h⟩
    · exact ⟨he, hw⟩
    · exact absurd hok h
set_option maxRecDepth 100000 in
set_option maxHeartbeats 4000000 in
theorem circle_in (A : Option Addr) (c lo hi : Nat) (ws : List Int) (hm : ws.length ≤ 1000000) (hok : Okw ws) (who whom : Int) (h1 : 0 ≤ who) (h2 : who < ws.length) (h3 : 0 ≤ whom) (h4 : whom < ws.length) (w : World) (hs : SlA w lo hi .i64 A ws) :
    CallsIn Fence.wide 5 Tryd.prog 12 #[.slice A ws.length c, .int .i64 who, .int .i64 whom] w fun e w' => e = .returned (.bool (circ ws ws.length whom who)) ∧ Below w.heap.size w w' := by
  have hhi : hi ≤ w.heap.size := hs.1
  have hK := Lib.hid (fun wr (h : w.grownBy wr none) => hs.kept h (by simp))
  have hcs := Lib.hid (chain_seq (A := A) (c := c) (lo := lo) (hi := hi) (ws := ws) (hok := hok) (hm := hm) (who := who) (a := whom) (ha := h4))
  have hco := Lib.hid (fun X => contains_yes X A c lo hi ws hm hok)
  obtain ⟨N, hN⟩ : ∃ N, ws.length = N := ⟨_, rfl⟩
  rw [hN] at hm h2 h4 hcs hco ⊢
  have o1 : oddB N who = false := oddB_false.2 ⟨by omega, h2⟩
  have o2 : oddB N whom = false := oddB_false.2 ⟨by omega, h4⟩
  clear hok hs
  obtain ⟨cv, hcv⟩ : ∃ cv, circ ws N whom who = cv := ⟨_, rfl⟩
  rw [hcv] at hcs ⊢
  replace hcv := Lib.hid hcv
  have b0 := ((Boxed.new w 22 (.slice A N c)).alloc (.cells #[.int .i64 who] 3)).alloc (.cells #[.bool false] 4)
  have b1 := (Boxed.new (w.alloc (.cells #[.slice A N c] 22)) 3 (.int .i64 who)).alloc (.cells #[.bool false] 4)
  have b2 := Boxed.new ((w.alloc (.cells #[.slice A N c] 22)).alloc (.cells #[.int .i64 who] 3)) 4 (.bool false)
  simp only [World.size_alloc] at b1 b2
  have hg3 : w.grownBy (((w.alloc (.cells #[.slice A N c] 22)).alloc (.cells #[.int .i64 who] 3)).alloc (.cells #[.bool false] 4)) none := grown_alloc (grown_alloc (grown_alloc (grown_refl _ _) _) _) _
  have hB3 : Below w.heap.size w (((w.alloc (.cells #[.slice A N c] 22)).alloc (.cells #[.int .i64 who] 3)).alloc (.cells #[.bool false] 4)) := (((Below.refl _ w).alloc (Nat.le_refl _) _).alloc (by simp) _).alloc (by simp; omega) _
  have hsz : (((w.alloc (.cells #[.slice A N c] 22)).alloc (.cells #[.int .i64 who] 3)).alloc (.cells #[.bool false] 4)).heap.size = w.heap.size + 3 := by simp
  have hs3 := hK.out _ hg3
  have c0 := b0.cell
  have c1 := b1.cell
  refine callsIn_of_wp_marks Tryd.func12 rfl trivial ?_ rfl
  simp only [Tryd.ntmps12, List.size_toArray, List.length_cons, List.length_nil, Nat.reduceAdd, Nat.reduceSub, Array.replicate_succ, Array.replicate_zero, List.push_toArray, List.append_toArray, List.nil_append, List.cons_append]
  gi_wp2_with (first
    | (refine ⟨trivial, ?_⟩; gi_at_call 41; refine (callsIn_wide.2 (hco.out _ _ c0 hs3)).mono ?_; rintro e w' ⟨rfl, rfl⟩)
    | (refine ⟨trivial, ?_⟩; gi_at_call 42; refine (callsIn_wide.2 (chain_any A N c whom _)).mono ?_; rintro e w' ⟨rfl, rfl⟩)
    | (refine ⟨trivial, ?_⟩; gi_at_call 40; refine (callsIn_wide.2 (odd_ok w.heap.size A N c _ _ c0)).mono ?_; rintro e w' ⟨rfl, rfl⟩))
  clear c0 c1 hs3 hco b0
  obtain ⟨W3, hW3⟩ : ∃ W3, (((w.alloc (.cells #[.slice A N c] 22)).alloc (.cells #[.int .i64 who] 3)).alloc (.cells #[.bool false] 4)) = W3 := ⟨_, rfl⟩
  rw [hW3] at b1 b2 hB3 hsz hg3 ⊢
  clear hW3
  have b3 := (Boxed.new W3 22 (.slice A N c)).alloc (.cells #[.int .i64 whom] 3)
  have b4 := Boxed.new (W3.alloc (.cells #[.slice A N c] 22)) 3 (.int .i64 whom)
  rw [World.size_alloc, hsz] at b4
  rw [hsz] at b3
  have b1 := (b1.alloc (.cells #[.slice A N c] 22)).alloc (.cells #[.int .i64 whom] 3)
  have b2 := (b2.alloc (.cells #[.slice A N c] 22)).alloc (.cells #[.int .i64 whom] 3)
  have hB5 := (hB3.alloc (by omega) (.cells #[.slice A N c] 22)).alloc (by simp; omega) (.cells #[.int .i64 whom] 3)
  have hsz0 : ((W3.alloc (.cells #[.slice A N c] 22)).alloc (.cells #[.int .i64 whom] 3)).heap.size = w.heap.size + 5 := by simp; omega
  obtain ⟨W0, hW0⟩ : ∃ W0, (W3.alloc (.cells #[.slice A N c] 22)).alloc (.cells #[.int .i64 whom] 3) = W0 := ⟨_, rfl⟩
  rw [hW0] at b1 b2 b3 b4 hB5 hsz0 ⊢
  clear hW0 hB3 hsz hg3
  replace hsz0 : W0.heap.size ≤ w.heap.size + 5 ∧ w.heap.size + 5 ≤ W0.heap.size := by omega
  refine wpIn_rangeFunc_free (by omega) (gf := 60) (lb := #[.pointer (some ⟨w.heap.size + 3, 0, none⟩), .pointer (some ⟨w.heap.size + 3 + 1, 0, none⟩)]) rfl (enters_of Tryd.func60 (by kernel_rfl) rfl) ?_
  intro fn rc hrc
  refine (hcs.out (W0.heap.size + 1) (w.heap.size + 3) (w.heap.size + 3 + 1)
    (fun W => Boxed W (w.heap.size + 1) 3 (.int .i64 who) ∧ Boxed W (w.heap.size + 1 + 1) 4 (.bool false) ∧ Boxed W (w.heap.size + 3) 22 (.slice A N c) ∧ Below w.heap.size w W ∧
      W.heap[W0.heap.size]? = some (.deferred (some [])) ∧ W.heap[W0.heap.size + 1]? = some (.loop (rc .ready none)))
    (fun W => Boxed W (w.heap.size + 1 + 1) 4 (.bool true) ∧ Below w.heap.size w W ∧
      W.heap[W0.heap.size]? = some (.deferred (some [])) ∧ W.heap[W0.heap.size + 1]? = some (.loop (rc .done (some .ret)))) ?hK ?hY ?hJ _ ?h0 ?hb).mono ?hend
  case hK =>
    rintro W ⟨u1, u2, u3, hbl, hd, hL⟩
    exact ⟨u3.cell, hK.out _ (grown_of_below hbl)⟩
  case hb => exact (b4.alloc _).alloc _
  case h0 =>
    refine ⟨(b1.alloc _).alloc _, (b2.alloc _).alloc _, (b3.alloc _).alloc _, ?_, ?_, ?_⟩
    · exact (hB5.alloc (by omega) _).alloc (by simp; omega) _
    · exact (Below.heap_alloc _ _ _ (by simp)).trans (World.alloc_heap_new W0 _)
    · have := World.alloc_heap_new (W0.alloc (.deferred (some []))); rw [World.size_alloc] at this; exact this _
  case hJ =>
    rintro W v v' ⟨u1, u2, u3, hbl, hd, hL⟩ hb1
    have hg := grownBy_setCell' W (w.heap.size + 3 + 1) v'
    exact ⟨u1.kept hg (by simp), u2.kept hg (by simp), u3.kept hg (by simp), hbl.setCell (p := ⟨w.heap.size + 3 + 1, 0, none⟩) (by simp; omega) _, (hg.block _ (Array.getElem?_eq_some_iff.1 hd).1 (by simp; omega)).trans hd, (hg.block _ (Array.getElem?_eq_some_iff.1 hL).1 (by simp; omega)).trans hL⟩
  case hY =>
    rintro x W ⟨u1, u2, u3, hbl, hd, hL⟩ hbx
    have hy := run_yield (P := Tryd.prog) (args := #[.int .i64 x]) hL (by rw [hrc.out]; rfl)
    rw [hrc.out] at hy
    refine ⟨_, _, _, _, hy, roundIn_of_wpIn trivial ?_⟩
    gi_wp2
    refine ⟨_, run_beginRound hL (by rw [hrc.out]), ?_⟩
    have hlt : W0.heap.size + 1 < W.heap.size := (Array.getElem?_eq_some_iff.1 hL).1
    have hL2 := World.putObj_heap_same (w := W) (o := .loop { rc .ready none with state := .busy }) hlt
    have hd2 := (World.putObj_heap_other (w := W) (r := W0.heap.size + 1) (k := W0.heap.size) (o := .loop { rc .ready none with state := .busy }) (by omega)).trans hd
    have hb2 := hbl.trans (belowK_b (w := w) (Nat.le_refl _) W (W0.heap.size + 1) _ (.loop { rc .ready none with state := .busy }) (by omega) hL rfl rfl)
    have hg2 := grownBy_putObj' W (W0.heap.size + 1) (.loop { rc .ready none with state := .busy })
    have v1 := u1.kept hg2 (by simp; omega)
    have v2 := u2.kept hg2 (by simp; omega)
    have v3 := u3.kept hg2 (by simp; omega)
    have vx := hbx.kept hg2 (by simp; omega)
    clear hy u1 u2 u3 hbl hd hbx hg2
    obtain ⟨W2, hW2⟩ : ∃ W2, W.putObj (W0.heap.size + 1) (.loop { rc .ready none with state := .busy }) = W2 := ⟨_, rfl⟩
    rw [hW2] at hL2 hd2 hb2 v1 v2 v3 vx ⊢
    clear hW2 hL hlt
    have cw := v1.cell
    have cr := v2.cell
    have fr := v2.frozen
    by_cases he : x = who
    · subst he
      gi_wp2
      have hL3 := (Below.heap_setCell W2 ⟨w.heap.size + 1 + 1, 0, none⟩ (.bool true) (W0.heap.size + 1) (by simp; omega)).trans hL2
      have hd3 := (Below.heap_setCell W2 ⟨w.heap.size + 1 + 1, 0, none⟩ (.bool true) W0.heap.size (by simp; omega)).trans hd2
      have v4 := v2.set (.bool true)
      have hb3 := hb2.setCell (p := ⟨w.heap.size + 1 + 1, 0, none⟩) (by simp; omega) (.bool true)
      refine ⟨_, _, run_endRound (some .ret) hL3, rfl, v4.kept (grownBy_putObj' _ _ _) (by simp; omega), ?_, ?_, ?_⟩
      · exact hb3.trans (belowK_b (w := w) (Nat.le_refl _) _ (W0.heap.size + 1) _ _ (by omega) hL3 rfl rfl)
      · exact (World.putObj_heap_other (by omega)).trans hd3
      · rw [World.putObj_heap_same (Array.getElem?_eq_some_iff.1 hL3).1, hrc.out]; rfl
    · have hbe : (x == who) = false := by rw [beq_eq_false_iff_ne]; exact he
      have he' := Lib.hid he
      clear he
      gi_wp2
      refine ⟨_, _, run_endRound none hL2, .inl ⟨he'.out, rfl, ⟨v1.kept (grownBy_putObj' _ _ _) (by simp; omega), v2.kept (grownBy_putObj' _ _ _) (by simp; omega), v3.kept (grownBy_putObj' _ _ _) (by simp; omega), ?_, ?_, ?_⟩, vx.kept (grownBy_putObj' _ _ _) (by simp; omega)⟩⟩
      · exact hb2.trans (belowK_b (w := w) (Nat.le_refl _) _ (W0.heap.size + 1) _ _ (by omega) hL2 rfl rfl)
      · exact (World.putObj_heap_other (by omega)).trans hd2
      · rw [World.putObj_heap_same (Array.getElem?_eq_some_iff.1 hL2).1, hrc.out]; rfl
  case hend =>
    rintro e W ⟨⟨v, rfl⟩, hcase⟩
    rcases hcase with ⟨hcf, u1, u2, u3, hbl, hd, hL⟩ | ⟨hct, u2, hbl, hd, hL⟩
    · obtain ⟨o', hend⟩ : ∃ o', (Instr.endLoop (W0.heap.size + 1)).run Tryd.prog W = .ok none (W.putObj (W0.heap.size + 1) o') :=
        ⟨_, by rw [run_endLoop (P := Tryd.prog) hL (by rw [hrc.out]; simp), show (rc .ready none).pending = none by rw [hrc.out]]⟩
      refine ⟨none, _, hend, ?_⟩
      have hg4 := grownBy_putObj' W (W0.heap.size + 1) o'
      have v2 := u2.kept hg4 (by simp; omega)
      have hd2 := (World.putObj_heap_other (w := W) (r := W0.heap.size + 1) (k := W0.heap.size) (o := o') (by omega)).trans hd
      have hb2 := hbl.trans (belowK_b (w := w) (Nat.le_refl _) W (W0.heap.size + 1) _ o' (by omega) hL rfl rfl)
      obtain ⟨W2, hW2⟩ : ∃ W2, W.putObj (W0.heap.size + 1) o' = W2 := ⟨_, rfl⟩
      rw [hW2] at v2 hd2 hb2 ⊢
      clear hW2 hend u1 u2 u3 hbl hd hL hrc hg4
      have cr := v2.cell
      have fr := v2.frozen
      gi_wp2
      have v3 := v2.set (.bool false)
      have hd3 := (Below.heap_setCell W2 ⟨w.heap.size + 1 + 1, 0, none⟩ (.bool false) W0.heap.size (by simp; omega)).trans hd2
      have hb3 := hb2.setCell (p := ⟨w.heap.size + 1 + 1, 0, none⟩) (by simp; omega) (.bool false)
      have v4 := v3.kept (grownBy_putObj' _ W0.heap.size (.deferred none)) (by simp; omega)
      have hb4 := hb3.trans (belowK_b (w := w) (Nat.le_refl _) _ W0.heap.size _ (.deferred none) (by omega) hd3 rfl rfl)
      have hc4 := v4.cell
      refine ⟨by simp, .inl ⟨_, _, rfl, run_takeDeferred hd3, ?_⟩⟩
      exact ⟨.bool false, by simp [results, Tryd.results12, go_sem, hc4], by rw [hcf], hb4⟩
    · obtain ⟨o', hend⟩ : ∃ o', (Instr.endLoop (W0.heap.size + 1)).run Tryd.prog W = .ok (some .ret) (W.putObj (W0.heap.size + 1) o') :=
        ⟨_, by rw [run_endLoop (P := Tryd.prog) hL (by rw [hrc.out]; simp), show (rc .done (some .ret)).pending = some .ret by rw [hrc.out]]⟩
      refine ⟨some .ret, _, hend, ?_⟩
      have v2 := u2.kept (grownBy_putObj' W (W0.heap.size + 1) o') (by simp; omega)
      have hd2 := (World.putObj_heap_other (w := W) (r := W0.heap.size + 1) (k := W0.heap.size) (o := o') (by omega)).trans hd
      have hb2 := hbl.trans (belowK_b (w := w) (Nat.le_refl _) W (W0.heap.size + 1) _ o' (by omega) hL rfl rfl)
      obtain ⟨W2, hW2⟩ : ∃ W2, W.putObj (W0.heap.size + 1) o' = W2 := ⟨_, rfl⟩
      rw [hW2] at v2 hd2 hb2 ⊢
      clear hW2 hend u2 hbl hd hL hrc
      have cr := v2.cell
      have fr := v2.frozen
      gi_wp2
      have v4 := v2.kept (grownBy_putObj' _ W0.heap.size (.deferred none)) (by simp; omega)
      have hb4 := hb2.trans (belowK_b (w := w) (Nat.le_refl _) _ W0.heap.size _ (.deferred none) (by omega) hd2 rfl rfl)
      have hc4 := v4.cell
      refine ⟨by simp, .inl ⟨_, _, rfl, run_takeDeferred hd2, ?_⟩⟩
      exact ⟨.bool true, by simp [results, Tryd.results12, go_sem, hc4], by rw [hct], hb4⟩
/-- Whether somebody would wait for themselves. -/
theorem circle_no (A : Option Addr) (c lo hi : Nat) (ws : List Int) (hm : ws.length ≤ 1000000) (who whom : Int) (w : World) (hs : SlA w lo hi .i64 A ws)
    (hno : ¬ (Okw ws ∧ 0 ≤ who ∧ who < ws.length ∧ 0 ≤ whom ∧ whom < ws.length)) :
    Calls Tryd.prog 12 #[.slice A ws.length c, .int .i64 who, .int .i64 whom] w fun e w' => e = .returned (.bool false) ∧ w.grownBy w' none := by
  have hco := Lib.hid (fun X => contains_ok X A c lo hi ws hm)
  have hg3 : w.grownBy (((w.alloc (.cells #[.slice A ws.length c] 22)).alloc (.cells #[.int .i64 who] 3)).alloc (.cells #[.bool false] 4)) none := grown_alloc (grown_alloc (grown_alloc (grown_refl _ _) _) _) _
  have hs3 := hs.kept hg3 (by simp)
  obtain ⟨N, hN⟩ : ∃ N, ws.length = N := ⟨_, rfl⟩
  rw [hN] at hm hco hno hs3 hg3 ⊢
  replace hN := Lib.hid hN
  have b0 := ((Boxed.new w 22 (.slice A N c)).alloc (.cells #[.int .i64 who] 3)).alloc (.cells #[.bool false] 4)
  have c0 := b0.cell
  have hco3 := Lib.hid (hco.out _ _ c0 hs3)
  have hodd := Lib.hid (fun x => odd_ok w.heap.size A N c x _ c0)
  have hgs := Lib.hid hg3
  have b2 := Boxed.new ((w.alloc (.cells #[.slice A N c] 22)).alloc (.cells #[.int .i64 who] 3)) 4 (.bool false)
  simp only [World.size_alloc] at b2
  have hce := Lib.hid ((b2.set (.bool false)).cell)
  clear hs hs3 hco b0 hg3
  replace hno := Lib.hid hno
  go_enter Tryd.func12, Tryd.ntmps12
  go_wp2_with fail
  refine hco3.out.mono ?_; rintro e w' ⟨q, rfl, hq, rfl⟩
  rcases hq with ⟨rfl, hok⟩ | ⟨rfl, hok⟩
  · have hno2 : ¬ (0 ≤ who ∧ who < N ∧ 0 ≤ whom ∧ whom < N) := fun h => hno.out ⟨hok, h⟩
    replace hok := Lib.hid hok
    by_cases h1 : who < 0
    · clear hno2
      go_wp2_with fail
      (try simp only [Exit.inBlock, Exit.then]); refine bodyPost_ret (v := .bool false) (by have := hce.out; simp [results, Tryd.results12, go_sem, this]) rfl ?_
      exact ⟨rfl, hgs.out⟩
    · by_cases h2 : whom < 0
      · clear hno2
        go_wp2_with fail
        (try simp only [Exit.inBlock, Exit.then]); refine bodyPost_ret (v := .bool false) (by have := hce.out; simp [results, Tryd.results12, go_sem, this]) rfl ?_
        exact ⟨rfl, hgs.out⟩
      · have ho := hodd.out who
        by_cases h3 : (N : Int) ≤ who
        · have o1 : oddB N who = true := by unfold oddB; rw [decide_eq_true h3]; simp
          rw [o1] at ho
          replace ho := Lib.hid ho
          replace hno2 := Lib.hid hno2
          go_wp2_with fail
          refine ho.out.mono ?_; rintro e w' ⟨rfl, rfl⟩
          go_wp2_with fail
          (try simp only [Exit.inBlock, Exit.then]); refine bodyPost_ret (v := .bool false) (by have := hce.out; simp [results, Tryd.results12, go_sem, this]) rfl ?_
          exact ⟨rfl, hgs.out⟩
        · have o1 : oddB N who = false := oddB_false.2 (by omega)
          have o2 : oddB N whom = true := by unfold oddB; rw [decide_eq_true (show (N : Int) ≤ whom by omega)]; simp
          have ho2 := hodd.out whom
          rw [o1] at ho
          rw [o2] at ho2
          replace ho := Lib.hid ho
          replace ho2 := Lib.hid ho2
          replace hno2 := Lib.hid hno2
          go_wp2_with fail
          refine ho.out.mono ?_; rintro e w' ⟨rfl, rfl⟩
          go_wp2_with fail
          refine ho2.out.mono ?_; rintro e w' ⟨rfl, rfl⟩
          go_wp2_with fail
          (try simp only [Exit.inBlock, Exit.then]); refine bodyPost_ret (v := .bool false) (by have := hce.out; simp [results, Tryd.results12, go_sem, this]) rfl ?_
          exact ⟨rfl, hgs.out⟩
  · replace hok := Lib.hid hok
    go_wp2_with fail
    (try simp only [Exit.inBlock, Exit.then]); refine bodyPost_ret (v := .bool false) (by have := hce.out; simp [results, Tryd.results12, go_sem, this]) rfl ?_
    exact ⟨rfl, hgs.out⟩
theorem circle_ok (A : Option Addr) (c lo hi : Nat) (ws : List Int) (hm : ws.length ≤ 1000000) (who whom : Int) (w : World) (hs : SlA w lo hi .i64 A ws) :
    Calls Tryd.prog 12 #[.slice A ws.length c, .int .i64 who, .int .i64 whom] w fun e w' => ∃ q, e = .returned (.bool q) ∧ (q = true ↔ Circ ws who whom) ∧ w.grownBy w' none := by
  by_cases h : Okw ws ∧ 0 ≤ who ∧ who < ws.length ∧ 0 ≤ whom ∧ whom < ws.length
  · obtain ⟨hok, h1, h2, h3, h4⟩ := h
    refine (callsIn_wide.1 (circle_in A c lo hi ws hm hok who whom h1 h2 h3 h4 w hs)).mono ?_
    rintro e w' ⟨rfl, hb⟩
    refine ⟨_, rfl, ?_, grown_of_below hb⟩
    rw [circ_reach hok (Nat.le_refl _) h4 h1]
    exact ⟨fun h => ⟨hok, h1, h2, h3, h4, h⟩, fun h => h.2.2.2.2.2⟩
  · refine (circle_no A c lo hi ws hm who whom w hs h).mono ?_
    rintro e w' ⟨rfl, hg⟩
    exact ⟨false, rfl, ⟨fun h => Bool.noConfusion h, fun hc => absurd (show Okw ws ∧ 0 ≤ who ∧ who < ws.length ∧ 0 ≤ whom ∧ whom < ws.length from ⟨hc.1, hc.2.1, hc.2.2.1, hc.2.2.2.1, hc.2.2.2.2.1⟩) h⟩, hg⟩
end Go.Proofs.YtigghlnnhdoabaaDoor
