/- RegionsPlay: whatever is done, the region and the reference's answer alike; the bytes handed in stay, and all lists lie apart. -/
import Derived.Test.YtabkkeeedlnmnaaDoorRegP2
import Derived.Test.YtabkkeeedlnmnaaDoorTwinB2
import Derived.Test.YtabkkeeedlnmnaaDoorBkB8
import Derived.Test.YtabkkeeedlnmnaaDoorRws
namespace Go.Proofs.YtabkkeeedlnmnaaDoor
open Go.RowKit Go.Shelf Tk
set_option linter.unusedVariables false
set_option linter.unusedSimpArgs false
section
variable {w0 w w' : World} {B M R m G X n : Nat} {o : Option Obj} {xsA xsB ms' : List Int} {fX : Nat → Value}
/-- All, and a block X of the law's own. -/
def RPX (w0 w : World) (B M R m G : Nat) (o : Option Obj) (X n : Nat) (fX : Nat → Value) (xsA xsB : List Int) : Prop := ∃ v, RPW w0 w B M R m G o xsA xsB v ∧ ¬ RefR.OwnQ R v X ∧ X ≠ M ∧ Arr w X n fX
theorem RPX.rp (h : RPX w0 w B M R m G o X n fX xsA xsB) : RP w0 w B M R m G o xsA xsB := by obtain ⟨v, h, -⟩ := h; exact ⟨v, h⟩
theorem RPX.arr (h : RPX w0 w B M R m G o X n fX xsA xsB) : Arr w X n fX := by obtain ⟨v, -, -, -, h⟩ := h; exact h
theorem RP.le (h : RP w0 w B M R m G o xsA xsB) : xsB.length ≤ 4096 := by obtain ⟨v, h⟩ := h; exact h.ref.n64
theorem RP.withX (h : RP w0 w B M R m G o xsA xsB) (cs : Array Value) (T : TypeId) (hA : Arr (w.alloc (.cells cs T)) w.heap.size n fX) : RPX w0 (w.alloc (.cells cs T)) B M R m G o w.heap.size n fX xsA xsB := by
  have h2 := h.keep (World.grownBy_alloc w (.cells cs T) none)
  obtain ⟨v, h⟩ := h
  have hM := h.reg.row.lt
  refine ⟨v, ⟨h.reg.keep (World.grownBy_alloc w _ none), h.ref.keep (World.grownBy_alloc w _ none), h.dis, h.lo, ⟨by rw [World.size_alloc]; exact Nat.lt_succ_of_lt h.tw.1, ((World.grownBy_alloc w (.cells cs T) none).block G h.tw.1 (by simp)).trans h.tw.2⟩, grown_trans h.g (World.grownBy_alloc w _ none)⟩, fun e => by have := h.ref.lt _ e; omega, by omega, hA⟩
theorem RPX.obj (h : RPX w0 w B M R m G o X n fX xsA xsB) (g : w.grownBy w' (some M)) (hq : Reg w' B M ms') : RPX w0 w' B M R m G o X n fX ms' xsB := by
  obtain ⟨v, h, h1, h2, h3⟩ := h
  have fg : Fr (fun b => b = M) w w' := Fr.of_grown g (fun k e _ => by cases e; rfl)
  exact ⟨v, ⟨hq, h.ref.fr fg (fun b hb e => h.dis.2.1 (e ▸ hb)), h.dis, h.lo, ⟨Nat.lt_of_lt_of_le h.tw.1 g.size, (g.block G h.tw.1 (fun e => h.dis.2.2.2.1 (by cases e; rfl))).trans h.tw.2⟩, grown_new' h.g fg (fun b e => by rw [e]; exact h.lo.2.1)⟩, h1, h2, h3.fr fg h2⟩
theorem RP.start {v : Value} {zs : List Int} {s r : Nat} (hq : Reg w B M zs) (hr : RefR.RQ w R m v zs) (hB : s ≤ B) (hM : s ≤ M) (hBr : B < r) (hMr : M < r) (hR : r ≤ R) (hv : ∀ b, v.ownBlock = some b → r ≤ b) (hG : G < s) (hs : w0.heap.size ≤ s) (hg : w0.grownBy w none) :
    RP w0 w B M R m G w.heap[G]? zs zs := by
  have hQ : ∀ b, RefR.OwnQ R v b → r ≤ b := by
    rintro b (rfl | e)
    · exact hR
    · exact hv b e
  have hBl := hq.hdr.lt
  refine ⟨v, hq, hr, ⟨fun e => ?_, fun e => ?_, fun e => ?_, by omega, by omega⟩, ⟨by omega, by omega, fun b hb => ?_⟩, ⟨by omega, rfl⟩, hg⟩
  · have := hQ _ e; omega
  · have := hQ _ e; omega
  · have := hQ _ e; omega
  · have := hQ _ hb; omega
theorem RP.refBytes (h : RP w0 w B M R m G o xsA xsB) : Calls Tryd.prog 41 #[.pointer (some ⟨R, 0, none⟩)] w fun e w' => ∃ u, e = .returned u ∧ Mine w' w.heap.size 5 .u8 u xsB ∧ w.grownBy w' none := by
  obtain ⟨v, h⟩ := h; exact RefR.bytes_ok h.ref
end
theorem meas_q (n k : Nat) (h : k < n) : n - (intOf (.int .i64 ((k : Int) + 1))).toNat < n - (intOf (.int .i64 (k : Int))).toNat := by simp [intOf]; omega
theorem four (r : Nat) : ((r : Int) % 4 == 0) = true ∨ (((r : Int) % 4 == 0) = false ∧ ((r : Int) % 4 == 1) = true) ∨ (((r : Int) % 4 == 0) = false ∧ ((r : Int) % 4 == 1) = false ∧ ((r : Int) % 4 == 2) = true) ∨
    (((r : Int) % 4 == 0) = false ∧ ((r : Int) % 4 == 1) = false ∧ ((r : Int) % 4 == 2) = false) := by
  simp only [beq_iff_eq, beq_eq_false_iff_ne]; omega
theorem mine_block {w w' : World} {base g n c : Nat} {e : TypeId} {k : IntKind} {xs : List Int} (h : Mine w base e k (.slice (some ⟨g, 0, none⟩) n c) xs) (hb : w'.heap[g]? = w.heap[g]?) : Mine w' base e k (.slice (some ⟨g, 0, none⟩) n c) xs := by
  obtain ⟨hl, hr⟩ := h
  refine ⟨hl, hr.imp id ?_⟩
  rintro ⟨b, cap, cur, e, hb', hh, r⟩
  cases e
  exact ⟨g, c, cur, rfl, hb', hb.trans hh, r⟩
theorem mine_blk {w : World} {base : Nat} {v : Value} {xs : List Int} (h : Mine w base 5 .u8 v xs) : ∀ b, v.ownBlock = some b → base ≤ b ∧ b < w.heap.size := fun b hb => World.ownsRow.lt h b hb
theorem twin_lg {w : World} {base g c n : Nat} {xs : List Int} (hn : xs.length = n) (h : Mine w base 5 .u8 (.slice (some ⟨g, 0, none⟩) (n + 1) c) (xs ++ [77])) (hc : n < c) : Lg w 5 .u8 (.slice (some ⟨g, 0, none⟩) n c) xs := by
  subst hn
  have h' : w.ownsRow base 5 1 (.slice (some ⟨g, 0, none⟩) (xs.length + 1) c) (xs ++ [77]).length ((xs ++ [77]).map (Value.int .u8)) := h
  have hR := (Rw.of_own h').1.cut (c' := c) xs.length (by simp) (by omega) (Nat.le_refl _)
  rw [List.take_left' rfl] at hR
  exact .inr ⟨g, c, rfl, hR⟩
theorem left_n {w : World} {g c d base lo hi n : Nat} {A : Option Addr} {xs : List Int} (hn : xs.length = n) (hc : n < c) (hl : n ≤ d) (hm : n ≤ 10000)
    (hM : Mine w base 5 .u8 (.slice (some ⟨g, 0, none⟩) (n + 1) c) (xs ++ [77])) (hs : SlA w lo hi .u8 A xs) :
    Calls Tryd.prog 30 #[.slice (some ⟨g, 0, none⟩) n c, .slice A n d] w fun e w' => e = .returned (.bool true) ∧ w.grownBy w' none := by
  subst hn
  exact (leftBytes_any g c d base lo hi A xs w hc hl (by omega) hM hs).mono fun e w' ⟨he, n, hw⟩ => ⟨he, by rw [← hw]; exact grown_drewN (grown_refl _ _) n⟩
theorem same_b {w : World} {b b' : Nat} {u v : Value} {xs : List Int} (hu : Mine w b 5 .u8 u xs) (hv : Mine w b' 5 .u8 v xs) (hm : xs.length ≤ 1000000) :
    Calls Tryd.prog 40 #[u, v] w fun e w' => e = .returned (.bool true) ∧ w.grownBy w' none := by
  obtain ⟨A, c, rfl, hc, -⟩ := hu.form
  obtain ⟨B, d, rfl, hd, -⟩ := hv.form
  exact (sameBytes_any A B c d _ _ _ _ xs xs w hc hd hm hm hu.sl hv.sl).mono fun e w' ⟨he, n, hw⟩ => ⟨by rw [he, decide_eq_true rfl], by rw [← hw]; exact grown_drewN (grown_refl _ _) n⟩
theorem bytes_n {w : World} {B M q : Nat} {xs : List Int} (hq : xs.length = q) (hl : q ≤ 4096) (hR : Reg w B M xs) :
    Calls Tryd.prog 39 #[.pointer (some ⟨B, 0, none⟩)] w fun x w' => ∃ A c, x = .returned (.slice A q c) ∧ Mine w' w.heap.size 5 .u8 (.slice A q c) xs ∧ w.grownBy w' none := by
  subst hq
  exact (bytes_ok B M xs hl w hR).mono fun e w' ⟨A, c, he, _, hM, hg⟩ => ⟨A, c, he, hM, hg⟩
theorem new_n (n p : Nat) (hn : n ≤ 4096) (A : Option Addr) (c : Nat) (ys : List Int) (hp : ys.length = p) (hys : p ≤ n) (hf : ∀ i, i < p → 0 ≤ gd ys i ∧ gd ys i < 256) (w : World) (lo hi : Nat) (hs : SlA w lo hi .u8 A ys) :
    Calls Tryd.prog 28 #[.int .i64 n, .slice A p c] w fun x w' => ∃ B M, x = .returned (.tuple #[.pointer (some ⟨B, 0, none⟩), .int .i64 0]) ∧ Reg w' B M (RefR.fl ys n p) ∧ w.heap.size ≤ M ∧ w.heap.size ≤ B ∧ w.grownBy w' none := by
  subst hp
  refine (new_ok n hn A c ys hys hf w lo hi hs).mono ?_
  rintro e w' ⟨B, M, he, hR, h1, h2, h3⟩
  refine ⟨B, M, he, ?_, h1, h2, h3⟩
  unfold RefR.fl
  rw [List.take_length]; exact hR
theorem twin_n (A : Option Addr) (c lo hi p : Nat) (xs : List Int) (hp : xs.length = p) (w : World) (hl : p ≤ c) (hm : p ≤ 1000000) (hs : SlA w lo hi .u8 A xs) :
    Calls Tryd.prog 27 #[.slice A p c] w fun e w' => ∃ g c', e = .returned (.slice (some ⟨g, 0, none⟩) p c') ∧ p < c' ∧ Mine w' w.heap.size 5 .u8 (.slice (some ⟨g, 0, none⟩) (p + 1) c') (xs ++ [77]) ∧ w.grownBy w' none := by
  subst hp
  exact (twinBytes_any A c lo hi xs w hl hm hs).mono fun e w' ⟨g, c', he, h1, _, h2, h3⟩ => ⟨g, c', he, h1, h2, h3⟩
theorem twin_sl {w : World} {base g c p : Nat} {xs : List Int} (hp : xs.length = p) (h : Mine w base 5 .u8 (.slice (some ⟨g, 0, none⟩) (p + 1) c) (xs ++ [77])) : SlA w base w.heap.size .u8 (some ⟨g, 0, none⟩) xs := by
  subst hp; exact h.take.sl
set_option maxRecDepth 100000 in
set_option maxHeartbeats 8000000 in
theorem regionsPlay_walk (zz : Int) (wz : (Lit.int .i64 zz).wf = true) (A1 : Option Addr) (c1 : Nat) (ys : List Int) (hl1 : ys.length ≤ c1) (A2 : Option Addr) (c2 L : Nat) (T : Nat → Nat → Int) (hl2 : L ≤ c2) (w : World)
    (hs1 : SlA w 0 w.heap.size .u8 A1 ys) (hf1 : ∀ x ∈ ys, (Lit.int .u8 x).wf = true) (hb1 : ys.length * 1 ≤ 140737488351232)
    (hs2 : RowsA w [.u8, .u32, .u32] A2 L T) (hf2 : ∀ i, i < L → ∀ q, q < [IntKind.u8, .u32, .u32].length → (Lit.int ([IntKind.u8, .u32, .u32].getD q .u8) (T i q)).wf = true) (hb2 : L * 12 ≤ 140737488351232) :
    Calls Tryd.prog 5 #[.int .i64 zz, .slice A1 ys.length c1, .slice A2 L c2] w fun e w' => e = .returned (.bool true) ∧ w.grownBy w' none := by
  have hfit : ∀ i, i < L → (0 ≤ T i 0 ∧ T i 0 < 256) ∧ (0 ≤ T i 1 ∧ T i 1 < 4294967296) ∧ (0 ≤ T i 2 ∧ T i 2 < 4294967296) := fun i hi => ⟨wf_u8 (hf2 i hi 0 (by decide)), wf_u32 (hf2 i hi 1 (by decide)), wf_u32 (hf2 i hi 2 (by decide))⟩
  replace hfit := Lib.hid hfit
  have hyf : ∀ k, k < ys.length → 0 ≤ gd ys k ∧ gd ys k < 256 := fun k hk => wf_u8 (hf1 _ (gd_mem hk))
  obtain ⟨p, hp⟩ : ∃ p, ys.length = p := ⟨_, rfl⟩
  rw [hp] at hl1 hyf ⊢
  replace hyf := Lib.hid hyf
  replace hp := Lib.hid hp
  clear hf1 hf2 wz hb1 hb2
  by_cases hlen : p ≤ 10000 ∧ L ≤ 200
  · obtain ⟨hp1, hL⟩ := hlen
    have hd : decide ((10000 : Int) < (p : Int)) = false := decide_eq_false (by omega)
    have hd' : decide ((200 : Int) < (L : Int)) = false := decide_eq_false (by omega)
    have hK1 := Lib.hid (fun wr (h : w.grownBy wr none) => hs1.kept h (by simp))
    have hK2 := Lib.hid (fun wr (h : w.grownBy wr none) => hs2.kept h)
    clear hs1 hs2
    go_enter Tryd.func5, Tryd.ntmps5
    go_wp2_with fail
    refine (twin_n A1 c1 0 w.heap.size p ys hp.out w hl1 (by omega) (hK1.out w (grown_refl _ _))).mono ?_; rintro e wt ⟨g, d, rfl, hd1, hMt, hgt⟩
    have hMt' := Lib.hid hMt
    have hgt' := Lib.hid hgt
    have hglt : Hid (w.heap.size ≤ g ∧ g < wt.heap.size) := hMt.lt
    clear hMt hgt
    by_cases hbad : zz < 0 ∨ 4096 < zz ∨ zz < p
    · replace hbad := Lib.hid hbad
      go_wp2_with fail
      refine (new_bad zz (some ⟨g, 0, none⟩) p d (by omega) hbad.out _).mono ?_; rintro e w' ⟨rfl, rfl⟩
      go_wp2_with fail
      refine (RefR.new_bad zz A1 p c1 hbad.out _).mono ?_; rintro e w' ⟨rfl, rfl⟩
      go_wp2_with fail
      refine (left_n hp.out hd1 hl1 hp1 hMt'.out (hK1.out _ hgt'.out)).mono ?_; rintro e w5 ⟨rfl, hg5⟩
      have hG := Lib.hid (grown_trans hgt'.out hg5)
      clear hg5
      go_wp2_with fail
      go_ret
      exact ⟨rfl, hG.out⟩
    · obtain ⟨n, rfl⟩ := Int.eq_ofNat_of_zero_le (by omega : 0 ≤ zz)
      have hn4 : Hid (n ≤ 4096) := by show _ ≤ _; omega
      have hpn : Hid (p ≤ n) := by show _ ≤ _; omega
      clear hbad
      go_wp2_with fail
      refine (new_n n p hn4.out (some ⟨g, 0, none⟩) d ys hp.out hpn.out hyf.out wt w.heap.size wt.heap.size (twin_sl hp.out hMt'.out)).mono ?_
      rintro e wa ⟨B, M, rfl, hR, hMw, hBw, hga⟩
      have hR' := Lib.hid hR
      have hMB : Hid (wt.heap.size ≤ M ∧ wt.heap.size ≤ B) := ⟨hMw, hBw⟩
      have hga' := Lib.hid hga
      have hG2 := Lib.hid (grown_trans hgt'.out hga)
      clear hR hMw hBw hga
      go_wp2_with fail
      refine (RefR.new_ok n hn4.out A1 c1 p 0 w.heap.size ys hp.out hpn.out wa (hK1.out _ hG2.out)).mono ?_
      rintro e wb ⟨R, v, rfl, hRQ, hgb, hRl, hvl⟩
      have hst0 := Lib.hid (RP.start (w0 := w) (G := g) (s := wt.heap.size) (r := wa.heap.size) (hR'.out.keep hgb) hRQ hMB.out.2 hMB.out.1 hR'.out.hdr.lt hR'.out.row.lt hRl hvl hglt.out.2 hgt'.out.size (grown_trans hG2.out hgb))
      have hMb := Lib.hid ((hMt'.out.keep hga'.out).keep hgb)
      have hGb := Lib.hid (grown_trans hG2.out hgb)
      clear hRQ hgb hRl hvl
      go_wp2_with fail
      refine (left_n hp.out hd1 hl1 hp1 hMb.out (hK1.out _ hGb.out)).mono ?_; rintro e w5 ⟨rfl, hg5⟩
      have hst := Lib.hid (hst0.out.keep hg5)
      have hM5 := Lib.hid (hMb.out.keep hg5)
      clear hg5 hst0 hR' hGb hga' hG2
      go_wp2_with fail
      obtain ⟨o, ho⟩ : ∃ o, wb.heap[g]? = o := ⟨_, rfl⟩
      have hob : Hid (w5.heap[g]? = o) := by show _ = _; rw [← ho]; exact hst.out.tw
      rw [ho] at hst
      clear ho
      go_loopw [12] (fun i wr => ∃ (k : Nat) (ms : List Int), k ≤ L ∧ i = .int .i64 k ∧ Hid (RP w wr B M R n g o ms ms)) (fun i _ => L - (intOf i).toNat)
      case atStart => exact ⟨0, _, Nat.zero_le _, rfl, hst.out⟩
      case round =>
        obtain ⟨k, ms, hk, rfl, hP⟩ := hrel
        clear hst
        by_cases hlt : k < L
        · obtain ⟨b, oo, rfl, hb, hcs⟩ := (hK2.out _ hP.out.g).at hlt
          have hc := hcs 0 (by decide)
          have hc1 := hcs 1 (by decide)
          have hc2 := hcs 2 (by decide)
          obtain ⟨⟨r1, r2⟩, ⟨r3, r4⟩, r5, r6⟩ := hfit.out k hlt
          generalize T k 0 = r at *
          generalize T k 1 = x at *
          generalize T k 2 = z at *
          obtain ⟨r, rfl⟩ := Int.eq_ofNat_of_zero_le r1
          obtain ⟨a, rfl⟩ := Int.eq_ofNat_of_zero_le r3
          have ha : Hid (a < 4294967296) := by show _ < _; omega
          have hz : Hid (0 ≤ z ∧ z < 4294967296) := ⟨r5, r6⟩
          have hz8 : Hid (0 ≤ z % 256 ∧ z % 256 < 256) := by show _ ∧ _; omega
          have hr := four r
          have hkI : (k : Int) < (L : Int) := by omega
          clear r1 r3 r4 hcs
          simp only [List.length_cons, List.length_nil, Nat.reduceAdd, Nat.add_zero, List.getD_cons_zero, List.getD_cons_succ] at hc hc1 hc2
          have hX := Arr.new wr #[.int .u8 (r : Int), .int .u32 (a : Int), .int .u32 z] 72 3 (fun i => if i = 0 then .int .u8 (r : Int) else if i = 1 then .int .u32 (a : Int) else .int .u32 z) rfl (fun i hi => by
            rcases (by omega : i = 0 ∨ i = 1 ∨ i = 2) with rfl | rfl | rfl <;> rfl)
          have hle := Lib.hid hP.out.le
          have hft := Lib.hid hP.out.reg.fit
          have hP1 := Lib.hid (hP.out.withX _ _ hX)
          clear hP hX
          rcases hr with d0 | ⟨d0, d1⟩ | ⟨d0, d1, d2⟩ | ⟨d0, d1, d2⟩
          · -- 0
            obtain ⟨g2, ms', hA, hB⟩ := pair_setWord (B := B) (M := M) (R := R) (m := n) ms hle.out a ha.out z hz.out
            have hA' := Lib.hid hA
            have hB' := Lib.hid hB
            have hgg : (g2 != g2) = false := by simp
            clear hA hB
            go_wp2_with fail
            refine (hA'.out _ hP1.out.rp.reg).mono ?_; rintro e w1 ⟨rfl, hq1, g1⟩
            have hP2 := Lib.hid (hP1.out.obj g1 hq1)
            have hx1 : w1.cell? ⟨wr.heap.size, 1, none⟩ = some (.int .u32 (a : Int)) := hP2.out.arr.cell (i := 1) (by decide)
            have hx2 : w1.cell? ⟨wr.heap.size, 2, none⟩ = some (.int .u32 z) := hP2.out.arr.cell (i := 2) (by decide)
            clear hq1 g1
            go_wp2_with fail
            refine (hP2.out.rp.step (E := fun e => e = .returned (.int .i64 g2)) (hB'.out w1)).mono ?_; rintro e w2 ⟨rfl, hP3x⟩
            have hP3 := Lib.hid hP3x
            clear hP3x hx1 hx2
            go_wp2_with fail
            go_roundw
            case rel => exact ⟨k + 1, _, by omega, by go_num, hP3.out⟩
            case measure => exact meas_q L k hlt
          · -- 1
            obtain ⟨g2, ms', hA, hB⟩ := pair_setByte (B := B) (M := M) (R := R) (m := n) ms hle.out a ha.out (z % 256) hz8.out
            have hA' := Lib.hid hA
            have hB' := Lib.hid hB
            have hgg : (g2 != g2) = false := by simp
            clear hA hB
            go_wp2_with fail
            refine (hA'.out _ hP1.out.rp.reg).mono ?_; rintro e w1 ⟨rfl, hq1, g1⟩
            have hP2 := Lib.hid (hP1.out.obj g1 hq1)
            have hx1 : w1.cell? ⟨wr.heap.size, 1, none⟩ = some (.int .u32 (a : Int)) := hP2.out.arr.cell (i := 1) (by decide)
            have hx2 : w1.cell? ⟨wr.heap.size, 2, none⟩ = some (.int .u32 z) := hP2.out.arr.cell (i := 2) (by decide)
            clear hq1 g1
            go_wp2_with fail
            refine (hP2.out.rp.step (E := fun e => e = .returned (.int .i64 g2)) (hB'.out w1)).mono ?_; rintro e w2 ⟨rfl, hP3x⟩
            have hP3 := Lib.hid hP3x
            clear hP3x hx1 hx2
            go_wp2_with fail
            go_roundw
            case rel => exact ⟨k + 1, _, by omega, by go_num, hP3.out⟩
            case measure => exact meas_q L k hlt
          · -- 2
            obtain ⟨y0, g2, hA, hB⟩ := pair_word (B := B) (M := M) (R := R) (m := n) ms hle.out hft.out a ha.out
            have hA' := Lib.hid hA
            have hB' := Lib.hid hB
            have hgg : (g2 != g2) = false := by simp
            have hyy : (y0 != y0) = false := by simp
            clear hA hB
            go_wp2_with fail
            refine (hA'.out _ hP1.out.rp.reg).mono ?_; rintro e w1 ⟨rfl, hq1, g1⟩
            have hP2 := Lib.hid (hP1.out.obj g1 hq1)
            have hx1 : w1.cell? ⟨wr.heap.size, 1, none⟩ = some (.int .u32 (a : Int)) := hP2.out.arr.cell (i := 1) (by decide)
            have hx2 : w1.cell? ⟨wr.heap.size, 2, none⟩ = some (.int .u32 z) := hP2.out.arr.cell (i := 2) (by decide)
            clear hq1 g1
            go_wp2_with fail
            refine (hP2.out.rp.step (E := fun e => e = .returned (.tuple #[.int .u32 y0, .int .i64 g2])) (hB'.out w1)).mono ?_; rintro e w2 ⟨rfl, hP3x⟩
            have hP3 := Lib.hid hP3x
            clear hP3x hx1 hx2
            go_wp2_with fail
            go_roundw
            case rel => exact ⟨k + 1, _, by omega, by go_num, hP3.out⟩
            case measure => exact meas_q L k hlt
          · -- 3
            obtain ⟨y0, g2, hyb, hA, hB⟩ := pair_byte (B := B) (M := M) (R := R) (m := n) ms hle.out hft.out a ha.out
            have hA' := Lib.hid hA
            have hB' := Lib.hid hB
            have hgg : (g2 != g2) = false := by simp
            have hyy : (y0 != y0) = false := by simp
            obtain ⟨hy1, hy2⟩ := hyb
            clear hA hB
            go_wp2_with fail
            refine (hA'.out _ hP1.out.rp.reg).mono ?_; rintro e w1 ⟨rfl, hq1, g1⟩
            have hP2 := Lib.hid (hP1.out.obj g1 hq1)
            have hx1 : w1.cell? ⟨wr.heap.size, 1, none⟩ = some (.int .u32 (a : Int)) := hP2.out.arr.cell (i := 1) (by decide)
            have hx2 : w1.cell? ⟨wr.heap.size, 2, none⟩ = some (.int .u32 z) := hP2.out.arr.cell (i := 2) (by decide)
            clear hq1 g1
            go_wp2_with fail
            refine (hP2.out.rp.step (E := fun e => e = .returned (.tuple #[.int .u8 y0, .int .i64 g2])) (hB'.out w1)).mono ?_; rintro e w2 ⟨rfl, hP3x⟩
            have hP3 := Lib.hid hP3x
            clear hP3x hx1 hx2
            go_wp2_with fail
            go_roundw
            case rel => exact ⟨k + 1, _, by omega, by go_num, hP3.out⟩
            case measure => exact meas_q L k hlt
        · obtain rfl : L = k := by omega
          have hle := Lib.hid hP.out.le
          obtain ⟨q, hq⟩ : ∃ q, ms.length = q := ⟨_, rfl⟩
          rw [hq] at hle
          replace hq := Lib.hid hq
          have hMr := Lib.hid (mine_block hM5.out (w' := wr) (by rw [hob.out]; exact hP.out.tw))
          have hgr := Lib.hid hP.out.g
          have hgtr : Hid (wt.heap.size ≤ wr.heap.size) := by
            obtain ⟨v, h⟩ := hP.out
            have h1 := hMB.out.1
            have h2 := h.reg.row.lt
            show _ ≤ _; omega
          clear hM5
          go_wp2_with fail
          refine (bytes_n hq.out hle.out hP.out.reg).mono ?_; rintro e w6 ⟨A6, c6, rfl, hM6, g6⟩
          have hM6' := Lib.hid hM6
          have hP6 := Lib.hid (hP.out.keep g6)
          have hMr6 := Lib.hid (hMr.out.keep g6)
          have z6 := Lib.hid g6.size
          clear hM6 g6 hP hMr
          go_wp2_with fail
          refine (bytes_n hq.out hle.out hP6.out.reg).mono ?_; rintro e w7 ⟨A7, c7, rfl, hM7, g7⟩
          have hM7' := Lib.hid hM7
          have hM67 := Lib.hid (hM6'.out.keep g7)
          have hP7 := Lib.hid (hP6.out.keep g7)
          have hMr7 := Lib.hid (hMr6.out.keep g7)
          have z7 := Lib.hid g7.size
          clear hM7 g7 hP6 hMr6
          go_wp2_with fail
          refine (hP7.out.refBytes).mono ?_; rintro e w8 ⟨u, rfl, hMu, g8⟩
          have hMu' := Lib.hid hMu
          have hM68 := Lib.hid (hM67.out.keep g8)
          have hM78 := Lib.hid (hM7'.out.keep g8)
          have hMr8 := Lib.hid (hMr7.out.keep g8)
          have hg8 := Lib.hid (grown_trans hP7.out.g g8)
          have z8 := Lib.hid g8.size
          clear hMu g8 hM67 hMr7
          go_wp2_with fail
          refine (same_b hM68.out hMu'.out (by rw [hq.out]; have := hle.out; omega)).mono ?_; rintro e w9 ⟨rfl, g9⟩
          have hM69 := Lib.hid (hM68.out.keep g9)
          have hM79 := Lib.hid (hM78.out.keep g9)
          have hMr9 := Lib.hid (hMr8.out.keep g9)
          have hg9 := Lib.hid (grown_trans hg8.out g9)
          have z9 := Lib.hid g9.size
          clear g9 hM68 hM78 hMr8 hg8
          go_wp2_with fail
          refine (same_b hM79.out hM69.out (by rw [hq.out]; have := hle.out; omega)).mono ?_; rintro e w10 ⟨rfl, g10⟩
          have hM610 := Lib.hid (hM69.out.keep g10)
          have hM710 := Lib.hid (hM79.out.keep g10)
          have hMr10 := Lib.hid (hMr9.out.keep g10)
          have hg10 := Lib.hid (grown_trans hg9.out g10)
          have z10 := Lib.hid g10.size
          clear g10 hM69 hM79 hMr9 hg9
          go_wp2_with fail
          refine (left_n hp.out hd1 hl1 hp1 hMr10.out (hK1.out _ hg10.out)).mono ?_; rintro e w11 ⟨rfl, g11⟩
          have hM611 := Lib.hid (hM610.out.keep g11)
          have hM711 := Lib.hid (hM710.out.keep g11)
          have hMr11 := Lib.hid (hMr10.out.keep g11)
          have hg11 := Lib.hid (grown_trans hg10.out g11)
          have z11 := Lib.hid g11.size
          clear g11 hM610 hM710 hMr10 hg10
          go_wp2_with fail
          have wT : BkByte.Wl w11 w.heap.size wt.heap.size (.slice (some ⟨g, 0, none⟩) p d) ys := ⟨twin_lg hp.out hMr11.out hd1, fun b hb => by cases hb; exact hglt.out⟩
          have wB : BkByte.Wl w11 wr.heap.size w6.heap.size (.slice A6 q c6) ms := ⟨Lg.of_mine hM611.out, mine_blk hM6'.out⟩
          have wC : BkByte.Wl w11 w6.heap.size w7.heap.size (.slice A7 q c7) ms := ⟨Lg.of_mine hM711.out, mine_blk hM7'.out⟩
          have s1 := hgt'.out.size
          have s2 := hgtr.out
          have s3 := z6.out
          have s4 := z7.out
          have s5 : w7.heap.size ≤ w11.heap.size := Nat.le_trans z8.out (Nat.le_trans z9.out (Nat.le_trans z10.out z11.out))
          have hz := BkByte.BkU.made (base := w.heap.size) w11 37 hg11.out.size
          have hgk := World.grownBy_alloc w11 (.cells #[.int .i64 0, .slice none 0 0, .slice none 0 0, .slice none 0 0, .slice none 0 0, .slice none 0 0, .slice none 0 0, .slice none 0 0, .slice none 0 0] 37) none
          have wT8 := wT.keep hgk
          have wB8 := Lib.hid (wB.keep hgk)
          have wC8 := Lib.hid (wC.keep hgk)
          have hG8 := Lib.hid (grown_trans hg11.out hgk)
          have apB : Hid (Apart (.slice A6 q c6) (.slice (some ⟨g, 0, none⟩) p d)) := wB.apart wT s2
          have apC : Hid (Apart (.slice A7 q c7) (.slice (some ⟨g, 0, none⟩) p d) ∧ Apart (.slice A7 q c7) (.slice A6 q c6)) := ⟨wC.apart wT (Nat.le_trans s2 s3), wC.apart wB (Nat.le_refl _)⟩
          have hpn2 : Hid (ys.length ≤ 5000 ∧ ms.length ≤ 5000) := by
            have h1 := hpn.out
            have h2 := hn4.out
            have h3 := hle.out
            show _ ∧ _
            rw [hp.out, hq.out]; omega
          refine (BkByte.ints2_ok hz (by decide) wT8 hpn2.out.1 (fun i hi => absurd hi (Nat.not_lt_zero _)) (Nat.le_refl _) (by omega)).mono ?_
          rintro e w12 ⟨⟨y, rfl⟩, hQ⟩
          obtain ⟨rv1, hb1', hf1⟩ := hQ
          have wB9 := Lib.hid (wB8.out.fr hf1 (by omega))
          have wC9 := Lib.hid (wC8.out.fr hf1 (by omega))
          have hG9 := Lib.hid (BkByte.grown_fr hG8.out hf1 (fun k hk => by omega))
          have hB9 := Lib.hid hb1'
          clear wT wB wC hz hgk wT8 hf1 hb1'
          go_wp2_with fail
          refine (BkByte.ints2_ok hB9.out (by decide) wB9.out hpn2.out.2 (fun i hi => by
            obtain rfl : i = 0 := by omega
            rw [BkByte.up_same]; exact apB.out) (by omega) (by omega)).mono ?_
          rintro e w13 ⟨⟨y, rfl⟩, hQ⟩
          obtain ⟨rv2, hb2', hf2⟩ := hQ
          have wC10 := Lib.hid (wC9.out.fr hf2 (by omega))
          have hG10 := Lib.hid (BkByte.grown_fr hG9.out hf2 (fun k hk => by omega))
          have hB10 := Lib.hid hb2'
          clear hf2 hb2'
          go_wp2_with fail
          refine (BkByte.ints2_ok hB10.out (by decide) wC10.out hpn2.out.2 (fun i hi => by
            rcases (by omega : i = 0 ∨ i = 1) with rfl | rfl
            · rw [BkByte.up_ne _ _ (by decide), BkByte.up_same]; exact apC.out.1
            · rw [BkByte.up_same]; exact apC.out.2) (by omega) (by omega)).mono ?_
          rintro e w14 ⟨⟨y, rfl⟩, hQ⟩
          obtain ⟨rv3, hb3', hf3⟩ := hQ
          have hG11 := Lib.hid (BkByte.grown_fr hG10.out hf3 (fun k hk => by omega))
          have hB11 := Lib.hid hb3'
          clear hf3 hb3'
          go_wp2_with fail
          refine (BkByte.apart_own hB11.out.toBkL (by decide)).mono ?_
          rintro e w15 ⟨rfl, hfA⟩
          have hG12 := Lib.hid (BkByte.grown_fr hG11.out hfA (fun k hk => hk))
          clear hfA
          go_wp2_with fail
          go_ret
          exact ⟨rfl, hG12.out⟩
  · have hcs : decide ((10000 : Int) < (p : Int)) = true ∨ (decide ((10000 : Int) < (p : Int)) = false ∧ decide ((200 : Int) < (L : Int)) = true) := by
      simp only [decide_eq_true_eq, decide_eq_false_iff_not]; omega
    clear hlen hs1 hs2
    rcases hcs with hd | ⟨hd, hd'⟩
    all_goals
      go_enter Tryd.func5, Tryd.ntmps5
      go_wp2_with fail
      go_ret
      exact ⟨rfl, grown_refl _ _⟩
end Go.Proofs.YtabkkeeedlnmnaaDoor
