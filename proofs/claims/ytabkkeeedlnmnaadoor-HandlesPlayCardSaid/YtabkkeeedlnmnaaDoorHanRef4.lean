/- timekeeperref08: Place, Drop, List. -/
import Derived.Test.YtabkkeeedlnmnaaDoorHanRef3
import Derived.Test.YtabkkeeedlnmnaaDoorOwn
namespace Go.Proofs.YtabkkeeedlnmnaaDoor
open Go.RowKit Go.Shelf Tk
set_option linter.unusedVariables false
set_option linter.unusedSimpArgs false
namespace RefH
variable {w w' : World} {R : Nat} {v : Nat × Nat} {t : Tab}
set_option maxRecDepth 100000 in
set_option maxHeartbeats 4000000 in
theorem place_ok (h : RQ w R v t) (ht : t.inn) (a : Nat) (ha : a < 4294967296) : Calls Tryd.prog 22 #[.pointer (some ⟨R, 0, none⟩), .int .u32 a] w fun e w' => e = .returned (.tuple #[.int .i64 (t.place a).1, .int .i64 (t.place a).2]) ∧ w = w' := by
  obtain ⟨n, hn⟩ : ∃ n, t.many = n := ⟨_, rfl⟩
  obtain ⟨v1, v2⟩ := v
  have c0 := h.c0
  have c1 := h.c1
  rw [hn] at c0 c1
  have hp : Hid (t.place a = if a / 256 = 0 ∨ t.age (a % 256) < a / 256 then (0, 5) else if a / 256 < t.age (a % 256) ∨ t.tk (a % 256) = false then (0, 6) else (a % 256, 0)) := rfl
  have hout := ht.2 (a % 256)
  rw [hn] at hout
  have hag := ht.1.1 (a % 256)
  have hn256 : n ≤ 256 := by rw [← hn]; exact ht.1.2.2
  have hx2 : a / 256 < 16777216 := by omega
  have hy2 : a % 256 < 256 := Nat.mod_lt _ (by decide)
  have q1 : a % 256 < n → w.cell? ⟨v1, a % 256, none⟩ = some (.int .u32 (t.age (a % 256))) := fun hi => h.age.cell (i := a % 256) (by rw [hn]; exact hi)
  have q2 : a % 256 < n → w.cell? ⟨v2, a % 256, none⟩ = some (.bool (!t.tk (a % 256))) := fun hi => h.drp.cell (i := a % 256) (by rw [hn]; exact hi)
  clear h ht hn
  simp only at c0 c1
  generalize hx : a / 256 = x at *
  generalize hy : a % 256 = y at *
  have hx' : ((a : Int) / 256) = (x : Int) := by omega
  have hy' : ((a : Int) % 256) = (y : Int) := by omega
  clear hx hy
  generalize t.age y = b at *
  generalize t.tk y = q at *
  by_cases hA : n ≤ y
  · have hb0 : b = 0 := hout hA
    have hP : Hid (t.place a = (0, 5)) := by show _ = _; rw [hp.out, if_pos (by omega)]
    clear hp hout q1 q2 hb0
    go_enter Tryd.func22, Tryd.ntmps22
    go_wp2_with fail
    go_ret2
    exact ⟨by rw [hP.out]; rfl, rfl⟩
  · have hyn : y < n := by omega
    have r1 := q1 (by omega)
    have r2 := q2 (by omega)
    clear hout q1 q2
    by_cases h1 : x = 0
    · have hP : Hid (t.place a = (0, 5)) := by show _ = _; rw [hp.out, if_pos (.inl h1)]
      have d2 : ((x : Int) == 0) = true := by simp [h1]
      clear hp
      go_enter Tryd.func22, Tryd.ntmps22
      go_wp2_with fail
      go_ret2
      exact ⟨by rw [hP.out]; rfl, rfl⟩
    · have d2 : ((x : Int) == 0) = false := by simp [h1]
      by_cases h2 : b < x
      · have hP : Hid (t.place a = (0, 5)) := by show _ = _; rw [hp.out, if_pos (.inr h2)]
        clear hp
        go_enter Tryd.func22, Tryd.ntmps22
        go_wp2_with fail
        go_ret2
        exact ⟨by rw [hP.out]; rfl, rfl⟩
      · by_cases h3 : x < b
        · have hP : Hid (t.place a = (0, 6)) := by show _ = _; rw [hp.out, if_neg (by omega), if_pos (.inl h3)]
          clear hp
          go_enter Tryd.func22, Tryd.ntmps22
          go_wp2_with fail
          go_ret2
          exact ⟨by rw [hP.out]; rfl, rfl⟩
        · cases q with
          | false =>
            have hP : Hid (t.place a = (0, 6)) := by show _ = _; rw [hp.out, if_neg (by omega), if_pos (.inr rfl)]
            simp only [Bool.not_false] at r2
            clear hp
            go_enter Tryd.func22, Tryd.ntmps22
            go_wp2_with fail
            go_ret2
            exact ⟨by rw [hP.out]; rfl, rfl⟩
          | true =>
            have hP : Hid (t.place a = (y, 0)) := by show _ = _; rw [hp.out, if_neg (by omega), if_neg (by simp; omega)]
            simp only [Bool.not_true] at r2
            clear hp
            go_enter Tryd.func22, Tryd.ntmps22
            go_wp2_with fail
            go_ret2
            exact ⟨by rw [hP.out]; rfl, rfl⟩
theorem place_in {t : Tab} (ht : t.inn) (a : Nat) (h : (t.place a).2 = 0) : a % 256 < t.many ∧ (t.place a).1 = a % 256 := by
  unfold Tab.place at h ⊢
  by_cases h1 : a / 256 = 0 ∨ t.age (a % 256) < a / 256
  · rw [if_pos h1] at h; cases h
  · rw [if_neg h1] at h ⊢
    by_cases h2 : a / 256 < t.age (a % 256) ∨ t.tk (a % 256) = false
    · rw [if_pos h2] at h; cases h
    · rw [if_neg h2]
      refine ⟨?_, rfl⟩
      by_cases h3 : a % 256 < t.many
      · exact h3
      · have := ht.2 (a % 256) (by omega)
        omega
set_option maxRecDepth 100000 in
set_option maxHeartbeats 4000000 in
theorem drop_ok (h : RQ w R v t) (ht : t.inn) (a : Nat) (ha : a < 4294967296) : Calls Tryd.prog 20 #[.pointer (some ⟨R, 0, none⟩), .int .u32 a] w fun e w' => e = .returned (.int .i64 (t.place a).2) ∧ Post w R v (t.drop a) w' := by
  have hpl := Lib.hid (place_ok h ht a ha)
  obtain ⟨n, hn⟩ : ∃ n, t.many = n := ⟨_, rfl⟩
  have c1 := h.c1
  rw [hn] at c1
  by_cases h0 : (t.place a).2 = 0
  · obtain ⟨hk, hk1⟩ := place_in ht a h0
    have hD : Hid (t.let (a % 256) = t.drop a) := by show _ = _; unfold Tab.drop; rw [if_pos h0]
    have hT := Lib.hid (h.let hk)
    have q : w.cell? ⟨v.2, a % 256, none⟩ = some (.bool (!t.tk (a % 256))) := h.drp.cell hk
    have qf := h.drp.frozen (a % 256)
    have hpl2 : Hid (Calls Tryd.prog 22 #[.pointer (some ⟨R, 0, none⟩), .int .u32 a] w fun e w' => e = .returned (.tuple #[.int .i64 (a % 256 : Nat), .int .i64 0]) ∧ w = w') := by
      have := hpl.out
      rw [h0, hk1] at this
      exact this
    rw [hn] at hk
    replace h0 := Lib.hid h0
    clear h ht hk1 hpl hn
    generalize a % 256 = y at *
    generalize (!t.tk y) = z at *
    have hkI : (y : Int) < (n : Int) := by omega
    go_enter Tryd.func20, Tryd.ntmps20
    go_wp2_with fail
    refine hpl2.out.mono ?_; rintro e w1 ⟨rfl, rfl⟩
    go_wp2_with fail
    go_ret
    exact ⟨by rw [h0.out]; rfl, by rw [← hD.out]; exact hT.out⟩
  · have hD : Hid (t.drop a = t) := by show _ = _; unfold Tab.drop; rw [if_neg h0]
    have hS := Lib.hid (h.same (grown_refl w none))
    have d0 : (((t.place a).2 : Int) != 0) = true := by rw [bne_iff_ne]; omega
    generalize (t.place a).2 = z at *
    generalize (t.place a).1 = y at *
    clear h ht hn
    go_enter Tryd.func20, Tryd.ntmps20
    go_wp2_with fail
    refine hpl.out.mono ?_; rintro e w1 ⟨rfl, rfl⟩
    go_wp2_with fail
    go_ret
    exact ⟨rfl, by rw [hD.out]; exact hS.out⟩
set_option maxRecDepth 100000 in
set_option maxHeartbeats 4000000 in
theorem list_ok (h : RQ w R v t) (ht : t.inn) : Calls Tryd.prog 25 #[.pointer (some ⟨R, 0, none⟩)] w fun e w' => ∃ u, e = .returned u ∧ Mine w' w.heap.size 22 .u32 u t.list ∧ w.grownBy w' none := by
  obtain ⟨i0, hi, hz0, hz1, hz2⟩ := info_parts infoWord
  obtain ⟨n, hn⟩ : ∃ n, t.many = n := ⟨_, rfl⟩
  obtain ⟨v1, v2⟩ := v
  have hK := Lib.hid (fun wr (hg : w.grownBy wr none) => h.keep hg)
  have hok := Lib.hid ht.1.1
  have hn256 : n ≤ 256 := by rw [← hn]; exact ht.1.2.2
  have hlist : Hid (t.upto n = t.list) := by rw [← hn]; rfl
  replace hn := Lib.hid hn
  clear h ht
  have hc0 := (hK.out w (grown_refl _ _)).c0
  rw [hn.out] at hc0
  go_enter Tryd.func25, Tryd.ntmps25
  go_wp2_with fail
  go_loopw [3, 4] (fun u i wr => ∃ k : Nat, k ≤ n ∧ i = .int .i64 k ∧ Mine wr w.heap.size 22 .u32 u (t.upto k) ∧ w.grownBy wr none) (fun _ i _ => n - (intOf i).toNat)
  case atStart => exact ⟨0, Nat.zero_le _, rfl, Mine.nil _ _ _ _, grown_refl _ _⟩
  case round =>
    obtain ⟨k, hk, rfl, hM, hg⟩ := hrel
    clear hc0
    have hQ := hK.out wr hg
    have c0 := hQ.c0
    have c1 := hQ.c1
    rw [hn.out] at c0 c1
    simp only at c0 c1
    have hul := upto_len t k
    obtain ⟨A1, d1, rfl, hd1, hd2, -⟩ := hM.form
    by_cases hlt : k < n
    · have hkI : (k : Int) < (n : Int) := by omega
      have q1 : wr.cell? ⟨v2, k, none⟩ = some (.bool (!t.tk k)) := hQ.drp.cell (by rw [hn.out]; exact hlt)
      have q2 : wr.cell? ⟨v1, k, none⟩ = some (.int .u32 (t.age k)) := hQ.age.cell (by rw [hn.out]; exact hlt)
      have hak := hok.out k
      cases hq : t.tk k with
      | false =>
        have hu := Lib.hid (upto_miss t k hq)
        rw [hq] at q1
        simp only [Bool.not_false] at q1
        clear hq hQ q2 hak
        go_wp2_with fail
        go_roundw
        case rel => exact ⟨k + 1, by omega, by go_num, by rw [hu.out]; exact hM, hg⟩
        case measure => exact meas n k hlt
      | true =>
        have hu := Lib.hid (upto_hit t k hq)
        rw [hq] at q1
        simp only [Bool.not_true] at q1
        have hhh : Hid (256 * (t.age k : Int) + (k : Int) = ((t.h k : Nat) : Int)) := by
          show _ = _
          unfold Tab.h; push_cast; omega
        obtain ⟨z, hz⟩ : ∃ z : Int, ((t.h k : Nat) : Int) = z := ⟨_, rfl⟩
        rw [hz] at hhh hu
        have hgA := World.grownBy_alloc wr (.cells #[.int .u32 z] 22) none
        have hrow := Lib.hid hM
        have hws := hg.size
        generalize t.age k = y at *
        clear hq hQ hz
        obtain ⟨m, hm⟩ : ∃ m, (t.upto k).length = m := ⟨_, rfl⟩
        have hrow2 : Hid (wr.ownsRow w.heap.size 22 1 (.slice A1 m d1) m ((t.upto k).map (Value.int .u32))) := by
          have := hrow.out; unfold Mine at this; rwa [hm] at this
        rw [hm] at hul hd1 ⊢
        go_wp2_with (at_builtin; refine wpList_append_own _ rfl _ _ 56 rfl w.heap.size 22 i0 (.int .u32 0) 1 4 Tryd.underlying56 hi hz0 hz1 hz2 rfl (by decide) (.slice A1 m d1) m ((t.upto k).map (Value.int .u32)) rfl (World.ownsRow.alloc hrow2.out _) ⟨wr.heap.size, 0, none⟩ 1 1 [.int .u32 (256 * (y : Int) + (k : Int))] rfl rfl (cell_one_new _ _ _) (by simp [Value.oneCell']) (by unfold maxLen; omega) (by omega) (by simp; omega) ?_; intro v' w5 hown hgrow _)
        go_roundw
        case rel =>
          rw [hhh.out] at hown
          refine ⟨k + 1, by omega, by go_num, ?_, ?_⟩
          · rw [hu.out]; rw [← hm] at hown; exact Mine.add hown
          · have hrow3 := hrow.out
            rw [hm] at hrow3
            rw [hhh.out] at hgrow
            exact (hrow3.keep hgA).far (grown_trans hg hgA) (Nat.le_refl _) hgrow
        case measure => exact meas n k hlt
    · obtain rfl : n = k := by omega
      have hM2 : Hid (Mine wr w.heap.size 22 .u32 (.slice A1 (t.upto n).length d1) t.list) := by show Mine _ _ _ _ _ _; rw [← hlist.out]; exact hM
      clear hQ hM
      go_wp2_with fail
      go_ret
      exact ⟨_, rfl, hM2.out, hg⟩
end RefH
/-- List, as a list of the call's own. -/
theorem list_mine (t : Tab) (hag : ∀ i, t.age i ≤ 16777215) (hm2 : t.many ≤ 256) (b : Nat) (w : World) (hA : Arr w b 513 t.v) :
    Calls Tryd.prog 23 #[.pointer (some ⟨b, 0, none⟩)] w fun e w' => ∃ u, e = .returned u ∧ Mine w' w.heap.size 22 .u32 u t.list ∧ w.grownBy w' none := by
  have hbl := hA.lt
  go_enter Tryd.func23, Tryd.ntmps23
  go_wp2_with fail
  obtain ⟨W3, hW3⟩ : ∃ W3, ((w.alloc (.cells #[.pointer (some ⟨b, 0, none⟩)] 42)).alloc (.cells #[.slice none 0 0] 56)) = W3 := ⟨_, rfl⟩
  have hA3 : Arr W3 b 513 t.v := by rw [← hW3]; exact (hA.alloc _).alloc _
  have g0 : Boxed W3 w.heap.size 42 (.pointer (some ⟨b, 0, none⟩)) := by rw [← hW3]; exact (Boxed.new w _ _).alloc _
  have g1 : Boxed W3 (w.heap.size + 1) 56 (.slice none 0 0) := by
    rw [← hW3]; have := Boxed.new (w.alloc (.cells #[.pointer (some ⟨b, 0, none⟩)] 42)) 56 (.slice none 0 0); rwa [World.size_alloc] at this
  have hf3 : Below w.heap.size w W3 := by rw [← hW3]; exact ((Below.refl _ w).alloc (Nat.le_refl _) _).alloc (by simp) _
  rw [hW3]
  clear hW3
  refine (findList_any t hag hm2 b w.heap.size hbl W3 hA3 g0 g1).mono ?_; rintro e W4 ⟨rfl, v, k1, kr, hb4⟩
  have hb : Below w.heap.size w W4 := hf3.trans (hb4.mono (by omega))
  obtain ⟨A, c, rfl, hlc, -, -⟩ := SlA.of_owns kr
  have hnr := k1.not_row (by decide) kr
  have c1 := k1.cell
  have f1 := k1.frozen
  go_wp2_with fail
  have kS := k1.set (.slice A t.list.length c)
  have kr2 := kr.kept (grownBy_setCell' W4 (w.heap.size + 1) (.slice A t.list.length c)) (.inr hnr.symm)
  have hbf := hb.setCell (p := ⟨w.heap.size + 1, 0, none⟩) (Nat.le_succ _) (.slice A t.list.length c)
  obtain ⟨W5, hW5⟩ : ∃ W5, W4.setCell ⟨w.heap.size + 1, 0, none⟩ (.slice A t.list.length c) = W5 := ⟨_, rfl⟩
  rw [hW5] at kS kr2 hbf
  try rw [hW5]
  have c2 := kS.cell
  refine bodyPost_ret (v := .slice A t.list.length c) (by simp [results, Tryd.results23, go_sem, c2]) rfl ⟨_, rfl, ?_, grown_of_below hbf⟩
  obtain ⟨h1, h2⟩ := kr2
  exact ⟨h1, h2.imp id fun ⟨g, cap, cur, e, hb, r⟩ => ⟨g, cap, cur, e, by omega, r⟩⟩
end Go.Proofs.YtabkkeeedlnmnaaDoor
