/- HandlesAny. -/
import Derived.Test.YtoocpofcmnnlfaaHanC
namespace Go.Proofs.Ytoocpofcmnnlfaa
open Go.RowKit Go.Shelf Tk
set_option linter.unusedVariables false
set_option linter.unusedSimpArgs false

theorem Tab.many_make (t : Tab) : t.make.1.many = t.many := by
  unfold Tab.make; split <;> rfl
theorem Tab.many_drop (t : Tab) (x : Nat) : (t.drop x).many = t.many := by
  unfold Tab.drop; split <;> rfl
/-- A truth of which something is known. -/
def BoolIs (v : Value) (P : Bool → Prop) : Prop := ∃ q, v = .bool q ∧ P q
theorem BoolIs.of {P : Bool → Prop} (q : Bool) (h : P q) : BoolIs (.bool q) P := ⟨q, rfl, h⟩
/-- Just the handles that are there have a place. -/
theorem Tab.mem_list {t : Tab} (h : t.good) (x : Nat) : ((x : Int) ∈ t.list) ↔ (t.place x).2 = 0 := by
  have h3 := h.1.2.2
  rw [t.list_eq, List.mem_map]
  constructor
  · rintro ⟨p, hp, e⟩
    have hp := (Tab.mem_ps h).1 hp
    have e' : t.h p = x := by exact_mod_cast e
    rw [← e', Tab.place_h h hp]
  · intro hp
    unfold Tab.place at hp
    split at hp
    · cases hp
    · split at hp
      · cases hp
      · rename_i g1 g2
        have hx : t.tk (x % 256) = true := by
          cases e : t.tk (x % 256)
          · exact absurd (.inr e) g2
          · rfl
        refine ⟨x % 256, (Tab.mem_ps h).2 hx, ?_⟩
        have : t.h (x % 256) = x := by unfold Tab.h; omega
        rw [this]
theorem Tab.drop_out {t : Tab} {x : Nat} (h : (t.place x).2 ≠ 0) : t.drop x = t := by unfold Tab.drop; rw [if_neg h]
theorem Tab.list_drop {t : Tab} (h : t.good) {x : Nat} (hp : (t.place x).2 = 0) : (t.drop x).list.length + 1 = t.list.length := by
  have hm := (Tab.mem_list h x).2 hp
  rw [t.list_eq, List.mem_map] at hm
  obtain ⟨p, hp, e⟩ := hm
  have hp := (Tab.mem_ps h).1 hp
  have e' : t.h p = x := by exact_mod_cast e
  rw [← e', Tab.drop_h h hp, Tab.list_len, Tab.list_len, Tab.ps_let h hp]
/-- Drop, at a handle that is there. -/
theorem drop_at (t : Tab) (h : t.good) (i : Nat) (hi : i < t.ps.length) (b : Nat) (x : Int) (hx : x = gd t.list i) (w : World) (hA : Arr w b 513 t.v) :
    Calls Try.prog 12 #[.pointer (some ⟨b, 0, none⟩), .int .u32 x] w fun y w' => y = .returned (.int .i64 0) ∧ Arr w' b 513 (t.let (t.at i)).v ∧ w.grownBy w' (some b) := by
  obtain ⟨h1, h2⟩ := Tab.at_mem hi
  have h3 := h.1.2.2
  rw [Tab.gd_list hi] at hx
  exact drop_is t _ (t.h (t.at i)) 0 h.1 (by rw [Tab.place_h h h2]) (Tab.drop_h h h2) b x hx (Tab.h_lt h.1 (by omega)) w hA

set_option maxRecDepth 100000 in
set_option maxHeartbeats 4000000 in
theorem handlesAny_walk (A0 : Option Addr) (c0 : Nat) (xs : List Int) (hl0 : xs.length ≤ c0) (a1 : Int) (w1 : (Lit.int .u32 a1).wf = true) (w : World) (hs0 : SlA w 0 w.heap.size .u8 A0 xs) (hf : ∀ x ∈ xs, (Lit.int .u8 x).wf = true) (hb : xs.length * 1 ≤ 140737488351232) :
    Calls Try.prog 7 #[.slice A0 xs.length c0, .int .u32 a1] w fun e w' => e = .returned (.bool true) ∧ w.grownBy w' none := by
  have hfit : Hid (∀ k, k < xs.length → 0 ≤ gd xs k ∧ gd xs k < 256) := fun k hk => wf_u8 (hf _ (gd_mem hk))
  clear hf
  obtain ⟨h0, h1⟩ := wf_u32 w1
  obtain ⟨h, rfl⟩ := Int.eq_ofNat_of_zero_le h0
  have hh : h < 4294967296 := by omega
  clear w1 h0 h1
  by_cases hlen : 60 < xs.length
  · go_enter Try.func7, Try.ntmps7
    go_wp2_with fail
    refine (alive_any _).mono ?_; rintro e wd ⟨rfl, hg⟩
    go_wp2_with fail
    refine (alive_any _).mono ?_; rintro e we ⟨rfl, hg2⟩
    go_wp2_with fail
    go_ret
    exact ⟨rfl, grown_trans hg hg2⟩
  · go_enter Try.func7, Try.ntmps7
    go_wp2_with fail
    refine (alive_any _).mono ?_; rintro e wd ⟨rfl, hg⟩
    have hs1 := hs0.kept hg (by simp)
    have hsz1 := hg.size
    clear hs0
    go_wp2_with fail
    refine (new_any 4 (by decide) (by decide) _).mono ?_; rintro e wa ⟨rfl, hA, hga, hsz⟩
    have hgw := grown_trans hg hga
    have hs2 := hs1.kept hga (by simp)
    have hgd := Lib.hid (tab0_good (n := 4) (by decide) (by decide))
    clear hs1 hg hga
    go_wp2_with fail
    obtain ⟨B, hB⟩ : ∃ B, wd.heap.size = B := ⟨_, rfl⟩
    have hBw : w.heap.size ≤ B := by omega
    rw [hB] at hA ⊢
    clear hB hsz
    go_loopw [7, 8] (fun i _ wr => ∃ (k : Nat) (T : Tab), k ≤ xs.length ∧ i = .int .i64 k ∧ Hid T.good ∧ Arr wr B 513 T.v ∧ wa.grownBy wr (some B)) (fun i _ _ => xs.length - (intOf i).toNat)
    case atStart => exact ⟨0, _, Nat.zero_le _, rfl, hgd, hA, grown_refl _ _⟩
    case round =>
      obtain ⟨k, T, hk, rfl, hgT, hA1, hg1⟩ := hrel
      have hs3 := hs2.kept hg1 (by intro b hb; cases hb; right; omega)
      by_cases hlt : k < xs.length
      · obtain ⟨b, o, rfl, hc⟩ := hs3.at hlt
        obtain ⟨f1, f2⟩ := hfit.out k hlt
        obtain ⟨y, hy⟩ := Int.eq_ofNat_of_zero_le f1
        rw [hy] at hc f2
        have hy := Lib.hid hy
        by_cases hx : y % 2 = 0
        · have hx' : ((y : Int) % 2 == 0) = true := by simp; omega
          clear hs2 hs3
          go_wp2_with fail
          refine (make_any T hgT.out.1 _ _ hA1).mono ?_; rintro e w2 ⟨rfl, hA2, hg2⟩
          go_wp2_with fail
          go_roundw
          case rel => exact ⟨k + 1, _, by omega, by go_num, Lib.hid (Tab.good_make hgT.out), hA2, grown_trans hg1 hg2⟩
          case measure => simp [intOf]; omega
        · have hx' : ((y : Int) % 2 == 0) = false := by simp; omega
          go_wp2_with fail
          refine (list_any T hgT.out.1.1 hgT.out.1.2.2 _ _ hA1).mono ?_; rintro e w2 ⟨A, c, rfl, hlc, hsl, hg2⟩
          have hA2 := hA1.kept hg2 (by simp)
          have hg3 := grown_trans hg1 (grown_weaken (some B) hg2)
          have hs4 := hs3.kept hg2 (by simp)
          have hc2 := hs4.cell hlt
          rw [hy.out] at hc2
          have hL := Lib.hid T.list_len
          have hLm : T.list.length ≤ 256 := Nat.le_trans (upto_len T T.many) hgT.out.1.2.2
          clear hA1 hs2 hs3 hg2 hg1
          by_cases hl0 : 0 < T.list.length
          · obtain ⟨i, hi, hi2⟩ : ∃ i : Nat, ((y : Int) / 2 % (T.list.length : Int)) = i ∧ i < T.list.length := by
              have : ((y : Int) / 2 % (T.list.length : Int)) = ((y / 2 % T.list.length : Nat) : Int) := by simp
              exact ⟨_, this, Nat.mod_lt _ hl0⟩
            obtain ⟨b2, o2, rfl, hc3⟩ := hsl.at hi2
            have hgd := hgT.out
            clear hsl hs4
            go_wp2_with fail
            refine (drop_at T hgT.out i (by rw [← hL.out]; exact hi2) _ _ rfl _ hA2).mono ?_; rintro e w3 ⟨rfl, hA3, hg4⟩
            go_wp2_with fail
            go_roundw
            case rel => exact ⟨k + 1, _, by omega, by go_num, Lib.hid (Tab.good_let hgT.out _), hA3, grown_trans hg3 hg4⟩
            case measure => simp [intOf]; omega
          · go_wp2_with fail
            go_roundw
            case rel => exact ⟨k + 1, T, by omega, by go_num, hgT, hA2, hg3⟩
            case measure => simp [intOf]; omega
      · have hgw1 : w.grownBy wr none := grown_step hgw hg1 hBw
        clear hs2 hs3 hg1 hgw hA
        go_wp2_with fail
        refine (list_any T hgT.out.1.1 hgT.out.1.2.2 _ _ hA1).mono ?_; rintro e w2 ⟨A, c, rfl, hlc, hsl, hg2⟩
        have hA2 := hA1.kept hg2 (by simp)
        have hgw2 := grown_trans hgw1 hg2
        have hLm : T.list.length ≤ 256 := Nat.le_trans (upto_len T T.many) hgT.out.1.2.2
        have hBl := hA1.lt
        clear hA1 hgw1 hg2
        go_wp2_with fail
        go_loopw [10, 11] (fun t i wr2 => ∃ z : Nat, z ≤ T.list.length ∧ i = .int .i64 z ∧ BoolIs t (fun q => Hid (q = decide (∃ j, j < z ∧ gd T.list j = (h : Int)))) ∧ Drawn w2 wr2) (fun _ i _ => T.list.length - (intOf i).toNat)
        case atStart => exact ⟨0, Nat.zero_le _, rfl, BoolIs.of _ (by show _ = _; simp), Drawn.refl _⟩
        case round =>
          obtain ⟨z, hz, rfl, ⟨q, rfl, hq⟩, hdr⟩ := hrel
          have hA2 := hdr.arr hA2
          have hsl := hdr.sl hsl
          have hgw2 := hdr.grown hgw2
          by_cases hlz : z < T.list.length
          · obtain ⟨b, o, rfl, hc⟩ := hsl.at hlz
            obtain ⟨r, hr⟩ : ∃ r, decide (gd T.list z = (h : Int)) = r := ⟨_, rfl⟩
            have hq2 : Hid ((q || r) = decide (∃ j, j < z + 1 ∧ gd T.list j = (h : Int))) := by
              show _ = _
              rw [hq.out, ← hr, Bool.eq_iff_iff]
              simp only [Bool.or_eq_true, decide_eq_true_eq]
              constructor
              · rintro (⟨j, hj, e⟩ | e)
                · exact ⟨j, by omega, e⟩
                · exact ⟨z, by omega, e⟩
              · rintro ⟨j, hj, e⟩
                by_cases ej : j = z
                · subst ej; exact .inr e
                · exact .inl ⟨j, by omega, e⟩
            have hr' : (gd T.list z == (h : Int)) = r := by rw [← hr]; rfl
            clear hr hsl
            cases q with
            | true =>
              go_wp2_with fail
              go_roundw
              case rel => exact ⟨z + 1, by omega, by go_num, BoolIs.of _ (by have := hq2.out; show _ = _; simpa using this), hdr⟩
              case measure => simp [intOf]; omega
            | false =>
              go_wp2_with fail
              go_roundw
              case rel => exact ⟨z + 1, by omega, by go_num, BoolIs.of _ (by have := hq2.out; show _ = _; simpa using this), hdr⟩
              case measure => simp [intOf]; omega
          · have hqm : Hid (q = decide ((T.place h).2 = 0)) := by
              show _ = _
              rw [hq.out, Bool.eq_iff_iff, decide_eq_true_eq, decide_eq_true_eq, ← Tab.mem_list hgT.out, mem_iff_gd]
              constructor
              · rintro ⟨j, hj, e⟩; exact ⟨j, by omega, e⟩
              · rintro ⟨j, hj, e⟩; exact ⟨j, by omega, e⟩
            clear hq
            have hpe := place_err T h
            obtain ⟨e0, he0⟩ : ∃ e0, (T.place h).2 = e0 := ⟨_, rfl⟩
            obtain ⟨p0, hp0⟩ : ∃ p0, (T.place h).1 = p0 := ⟨_, rfl⟩
            have hpl := place_any T hgT.out.1 B h hh wr hA2
            rw [he0] at hpe hqm hpl
            rw [hp0] at hpl
            have hpl := Lib.hid hpl
            have he0 := Lib.hid he0
            clear hp0
            by_cases hz0 : e0 = 0
            · subst hz0
              rw [decide_eq_true rfl] at hqm
              obtain rfl : q = true := hqm.out
              have hld := Lib.hid (Tab.list_drop hgT.out he0.out)
              have hres : ((((T.drop h).list.length : Nat) : Int) == (T.list.length : Int) - 1) = true := by
                have := hld.out; simp; omega
              have hgd2 := Lib.hid (Tab.good_drop hgT.out h)
              clear hpe hsl
              go_wp2_with fail
              refine hpl.out.mono ?_; rintro e w4 ⟨rfl, hg4⟩
              have hA4 := hA2.kept hg4 (by simp)
              go_wp2_with fail
              refine (drop_is T _ h 0 hgT.out.1 he0.out rfl _ _ rfl hh _ hA4).mono ?_; rintro e w5 ⟨rfl, hA5, hg5⟩
              go_wp2_with fail
              refine (list_any _ hgd2.out.1.1 hgd2.out.1.2.2 _ _ hA5).mono ?_; rintro e w6 ⟨A', c', rfl, hlc', hsl', hg6⟩
              go_wp2_with fail
              go_ret
              exact ⟨rfl, grown_trans (grown_step (grown_trans hgw2 hg4) hg5 hBw) hg6⟩
            · have hdo := Lib.hid (Tab.drop_out (t := T) (x := h) (by rw [he0.out]; exact hz0))
              rw [decide_eq_false hz0] at hqm
              obtain rfl : q = false := hqm.out
              have he56 : e0 = 5 ∨ e0 = 6 := by omega
              have hlen3 := hsl
              clear hpe hz0
              rcases he56 with rfl | rfl
              all_goals
                go_wp2_with fail
                refine hpl.out.mono ?_; rintro e w4 ⟨rfl, hg4⟩
                have hA4 := hA2.kept hg4 (by simp)
                have hsl4 := hsl.kept hg4 (by simp)
                go_wp2_with fail
                refine (drop_is T T h _ hgT.out.1 he0.out hdo.out _ _ rfl hh _ hA4).mono ?_; rintro e w5 ⟨rfl, hA5, hg5⟩
                have hsl5 := hsl4.kept hg5 (by intro b hb; cases hb; left; omega)
                go_wp2_with fail
                refine (list_any T hgT.out.1.1 hgT.out.1.2.2 _ _ hA5).mono ?_; rintro e w6 ⟨A', c', rfl, hlc', hsl', hg6⟩
                have hsl6 := hsl5.kept hg6 (by simp)
                go_wp2_with fail
                refine (sameWords_any _ _ _ _ _ _ _ _ T.list T.list _ hlc' hlc (by omega) (by omega) hsl' hsl6).mono ?_; rw [decide_eq_true rfl]; rintro e w7 ⟨rfl, nn, rfl⟩
                go_wp2_with fail
                go_ret
                exact ⟨rfl, grown_drewN (grown_trans (grown_step (grown_trans hgw2 hg4) hg5 hBw) hg6) _⟩
end Go.Proofs.Ytoocpofcmnnlfaa
