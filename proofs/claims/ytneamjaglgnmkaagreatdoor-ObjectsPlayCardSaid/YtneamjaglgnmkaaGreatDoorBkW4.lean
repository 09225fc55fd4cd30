/- The book: more is put behind each list. -/
import Derived.Test.YtneamjaglgnmkaaGreatDoorBkW3
import Derived.OwnWalk
namespace Go.Proofs.YtneamjaglgnmkaaGreatDoor
open Go.RowKit Go.Shelf Tk
set_option linter.unusedVariables false
set_option linter.unusedSimpArgs false
namespace BkWord
variable {w w' : World} {K : Nat} {rv : Value} {q : Nat} {V U : Nat → Value} {N : Nat → Nat}
def fullL (N : Nat → Nat) (j : Nat) : List Int := List.replicate (N j + 40) (mk (j + 1))
theorem Bk.store (h : Bk w K rv q V U) {g c : Nat} (e : rv = .slice (some ⟨g, 0, none⟩) q c) {p : Nat} (hp : p < q) (x : Value) : Bk (w.setCell ⟨g, p * 3 + 1, none⟩ x) K rv q V (up U p x) := by
  subst e
  have hne : K ≠ g := fun e => h.ne (by rw [e]; rfl)
  refine ⟨h.hdr.kept (grownBy_setCell _ _ _ _) (by simp; exact fun e => hne e.symm), ?_, h.ne⟩
  have := (World.ownsRow.stored h.row (p * 3 + 1) x).1
  rw [show p * 3 + 1 = 3 * p + 1 by omega] at this ⊢
  rwa [rows_set V U hp x] at this
/-- All, while the long list of p is made. -/
structure RestG (w : World) (K : Nat) (rv : Value) (q : Nat) (V U : Nat → Value) (N : Nat → Nat) (p : Nat) : Prop where
  bk : Bk w K rv q V U
  vs : ∀ j, j < q → Lg w 23 .u32 (V j) (full N j)
  us : ∀ j, j < p → Lg w 23 .u32 (U j) (fullL N j)
theorem RestG.keep {p : Nat} (h : RestG w K rv q V U N p) (g : w.grownBy w' none) : RestG w' K rv q V U N p := ⟨h.bk.keep g, fun j hj => (h.vs j hj).keep g, fun j hj => (h.us j hj).keep g⟩
/-- What a long list lies apart from. -/
structure Far (K : Nat) (rv : Value) (q : Nat) (V U : Nat → Value) (p X : Nat) (x : Value) : Prop where
  vs : ∀ i, i < q → i ≠ p → Apart x (V i)
  us : ∀ j, j < p → Apart x (U j)
  bk : ∀ b, x.ownBlock = some b → ¬ OwnB K rv b
  nx : x.ownBlock ≠ some X
theorem apart_ne {v u : Value} (h : Apart v u) : ∀ b, u.ownBlock = some b → v.ownBlock ≠ some b := by
  intro b hb e
  rcases h with h | h
  · rw [h] at e; cases e
  · exact h (by rw [e, hb])
/-- A step of append on x. -/
theorem RestG.step {p X : Nat} {x : Value} (h : RestG w K rv q V U N p) (hf : Far K rv q V U p X x) {t : Nat} (g : w.grownBy w' x.ownBlock)
    (hk : ∀ u ys, Lg w 23 .u32 u ys → (x.ownBlock = u.ownBlock → ys.length ≤ N p + t) → Lg w' 23 .u32 u ys) : RestG w' K rv q V U N p := by
  have g' : Fr (fun b => x.ownBlock = some b) w w' := Fr.of_grown g (fun k e _ => e)
  refine ⟨h.bk.fr g' (fun e => hf.bk _ e (.inl rfl)) (fun b hb e => hf.bk _ e (.inr hb)), fun j hj => ?_, fun j hj => ?_⟩
  · by_cases e : j = p
    · subst e; exact hk _ _ (h.vs j hj) (fun _ => by unfold full; rw [List.length_replicate]; omega)
    · exact (h.vs j hj).fr g' (fun b hb => apart_ne (hf.vs j hj e) b hb)
  · exact (h.us j hj).fr g' (fun b hb => apart_ne (hf.us j hj) b hb)
theorem Far.step {p X : Nat} {x x' : Value} (hf : Far K rv q V U p X x) (h : RestG w K rv q V U N p) (hp : p < q) (hX : X < w.heap.size) (hat : x'.ownBlock = x.ownBlock ∨ x'.ownBlock = some w.heap.size) : Far K rv q V U p X x' := by
  rcases hat with e | e
  · refine ⟨fun i hi hne => ?_, fun j hj => ?_, fun b hb => hf.bk b (by rw [← e]; exact hb), by rw [e]; exact hf.nx⟩
    · rcases hf.vs i hi hne with h | h
      · exact .inl (by rw [e]; exact h)
      · exact .inr (by rw [e]; exact h)
    · rcases hf.us j hj with h | h
      · exact .inl (by rw [e]; exact h)
      · exact .inr (by rw [e]; exact h)
  · refine ⟨fun i hi _ => .inr fun e2 => ?_, fun j hj => .inr fun e2 => ?_, fun b hb hB => ?_, by rw [e]; simp; omega⟩
    · have := (h.vs i hi).lt _ (by rw [← e2, e]); omega
    · have := (h.us j hj).lt _ (by rw [← e2, e]); omega
    · rw [e] at hb; cases hb
      have := h.bk.lt _ hB; omega
theorem fr_more {S : Nat → Prop} {a b c : World} {row : Option Nat} (h : Fr S a b) (g : b.grownBy c row) (hs : ∀ k, row = some k → S k ∨ a.heap.size ≤ k) : Fr S a c :=
  ((h.mono (S' := fun k => S k ∨ a.heap.size ≤ k) (fun _ _ => Or.inl)).trans (Fr.of_grown g (fun k e _ => hs k e))).mono (fun k hk h => h.resolve_right (by omega))
theorem new_one (w : World) (v : Value) (t : TypeId) : (w.alloc (.cells #[v] t)).cell? ⟨w.heap.size, 0, none⟩ = some v := cell_one_new w v t 0 v rfl
theorem rep_snoc (n : Nat) (x : Int) : List.replicate n x ++ [x] = List.replicate (n + 1) x := List.replicate_succ'.symm
set_option maxRecDepth 100000 in
set_option maxHeartbeats 4000000 in
theorem grow_ok (h : Bk w K rv q V U) (hq : q ≤ 1000) (hN : ∀ i, i < q → N i ≤ 5000) (hV : ∀ i, i < q → Lg w 23 .u32 (V i) (full N i)) (hU : ∀ i, i < q → ∃ A n c, U i = .slice A n c)
    (ap : ∀ i j, i < q → j < q → i ≠ j → Apart (V i) (V j)) (sep : ∀ b, OwnV q V b → ¬ OwnB K rv b) :
    Calls Tryz.prog 37 #[.pointer (some ⟨K, 0, none⟩)] w fun e w' => (∃ x, e = .returned x) ∧ (∃ U', RestG w' K rv q V U' N q) ∧ Fr (fun b => OwnV q V b ∨ rv.ownBlock = some b) w w' := by
  obtain ⟨i0, hi0, hz0, hz1, hz2⟩ := info_parts infoE
  replace hN := Lib.hid hN
  replace ap := Lib.hid ap
  replace sep := Lib.hid sep
  have hst : Hid (RestG w K rv q V U N 0) := ⟨h, hV, fun j hj => absurd hj (Nat.not_lt_zero _)⟩
  have hU0 : Hid ((∀ i, i < q → ∃ A n c, U i = .slice A n c) ∧ (∀ j i, j < 0 → i < q → i ≠ j → Apart (U j) (V i)) ∧ (∀ j, j < 0 → ∀ b, (U j).ownBlock = some b → ¬ OwnB K rv b)) := ⟨hU, fun j i hj => absurd hj (Nat.not_lt_zero _), fun j hj => absurd hj (Nat.not_lt_zero _)⟩
  clear hV hU h
  go_enter Tryz.func37, Tryz.ntmps37
  go_wp2_with fail
  go_loopw [2] (fun i wr => ∃ (p : Nat) (U' : Nat → Value), p ≤ q ∧ i = .int .i64 p ∧ Hid (RestG wr K rv q V U' N p) ∧ Hid ((∀ i, i < q → ∃ A n c, U' i = .slice A n c) ∧ (∀ j i, j < p → i < q → i ≠ j → Apart (U' j) (V i)) ∧ (∀ j, j < p → ∀ b, (U' j).ownBlock = some b → ¬ OwnB K rv b)) ∧ Fr (fun b => OwnV q V b ∨ rv.ownBlock = some b) w wr) (fun i _ => q - (intOf i).toNat)
  case atStart => exact ⟨0, U, Nat.zero_le _, rfl, hst.out, hU0.out, Fr.refl _ _⟩
  case round =>
    obtain ⟨p, U', hp, rfl, hR, hUf, hfr⟩ := hrel
    clear hst hU0
    obtain ⟨A1, c1, hrv, hqc, hA1⟩ := hR.out.bk.form
    have hKc := hR.out.bk.cf
    rw [hrv] at hKc
    by_cases hlt : p < q
    · obtain ⟨g, rfl⟩ := hA1 (by omega)
      have hLp := hR.out.vs p hlt
      obtain ⟨A, c, hVp, hnc, -⟩ := hLp.sl
      obtain ⟨A2, n2, c2, hUp⟩ := hUf.out.1 p hlt
      obtain ⟨n, hn⟩ : ∃ n, N p = n := ⟨_, rfl⟩
      have hfl : (full N p).length = n := by unfold full; rw [List.length_replicate]; exact hn
      have hn5 : n ≤ 5000 := by rw [← hn]; exact hN.out p hlt
      rw [hfl] at hVp hnc
      have r0 := hR.out.bk.at hrv (m := p * 3) (by omega)
      have r1 := hR.out.bk.at hrv (m := p * 3 + 1) (by omega)
      have r2 := hR.out.bk.at hrv (m := p * 3 + 2) (by omega)
      rw [rc0, hVp] at r0
      rw [rc1, hUp] at r1
      have hpc : ((p + 1 : Nat) : Int) = (p : Int) + 1 := by push_cast; rfl
      rw [rc2, hpc] at r2
      have hpI : (p : Int) < (q : Int) := by omega
      have hp0 : (0 : Int) ≤ (p : Int) := Int.natCast_nonneg _
      have hpq : (p : Int) ≤ 1000 := by omega
      have hAX := Arr.new wr #[.slice A n c, .slice A2 n2 c2, .int .i64 ((p : Int) + 1)] 123 3 (hx (.slice A n c) (.slice A2 n2 c2) ((p : Int) + 1)) rfl (fun i hi => by
        rcases (by omega : i = 0 ∨ i = 1 ∨ i = 2) with rfl | rfl | rfl <;> rfl)
      have hgX := World.grownBy_alloc wr (.cells #[.slice A n c, .slice A2 n2 c2, .int .i64 ((p : Int) + 1)] 123) none
      have hR1 : Hid (RestG (wr.alloc (.cells #[.slice A n c, .slice A2 n2 c2, .int .i64 ((p : Int) + 1)] 123)) K rv q V U' N p) := hR.out.keep hgX
      have hfr1 := hfr.trans (Fr.of_grown (S := fun b => OwnV q V b ∨ rv.ownBlock = some b) hgX (by simp))
      have hFar : Hid (Far K rv q V U' p wr.heap.size (.slice A n c)) := by
        rw [← hVp]
        refine ⟨fun i hi hne => (ap.out p i hlt hi (fun e => hne e.symm)), fun j hj => (hUf.out.2.1 j p hj hlt (by omega)).symm, fun b hb => sep.out b ⟨p, hlt, hb⟩, fun e => ?_⟩
        have := hLp.lt _ e; omega
      have hLx := hLp.keep hgX
      rw [hVp] at hLx
      obtain ⟨X, hX⟩ : ∃ X, wr.heap.size = X := ⟨_, rfl⟩
      rw [hX] at hAX hFar
      replace hVp := Lib.hid hVp
      replace hUp := Lib.hid hUp
      replace hrv := Lib.hid hrv
      replace hn := Lib.hid hn
      replace hfl := Lib.hid hfl
      clear hR hA1 hLp hgX hfr hpc
      go_wp2_with fail
      clear hX r0 r1 r2 hKc
      obtain ⟨W1, hW1⟩ : ∃ W1, wr.alloc (.cells #[.slice A n c, .slice A2 n2 c2, .int .i64 ((p : Int) + 1)] 123) = W1 := ⟨_, rfl⟩
      rw [hW1] at hAX hLx hR1 hfr1 ⊢
      clear hW1
      go_loopw [4, 5] (fun x z wr2 => ∃ t : Nat, t ≤ 40 ∧ z = .int .i64 t ∧ Lg wr2 23 .u32 x (List.replicate (n + t) (mk (p + 1))) ∧ Hid (RestG wr2 K rv q V U' N p) ∧ Hid (Far K rv q V U' p X x) ∧ Arr wr2 X 3 (hx (.slice A n c) (.slice A2 n2 c2) ((p : Int) + 1)) ∧ Hid ((∀ b, x.ownBlock = some b → OwnV q V b ∨ w.heap.size ≤ b) ∧ Fr (fun b => OwnV q V b ∨ rv.ownBlock = some b) w wr2)) (fun _ z _ => 40 - (intOf z).toNat)
      case atStart =>
        refine ⟨0, Nat.zero_le _, rfl, ?_, hR1.out, hFar.out, hAX, ⟨fun b hb => .inl ⟨p, hlt, by rw [hVp.out]; exact hb⟩, hfr1⟩⟩
        have := hLx; unfold full at this; rw [hn.out] at this; rw [Nat.add_zero]; exact this
      case round =>
        obtain ⟨t, ht, rfl, hLt, hRt, hFt, hAt, hBt⟩ := hrel
        have x2 : wr.cell? ⟨X, 2, none⟩ = some (.int .i64 ((p : Int) + 1)) := hAt.cell (i := 2) (by decide)
        clear hfr1 hAX hLx hR1 hFar
        obtain ⟨Ax, cx, rfl, hnx, -⟩ := hLt.sl
        rw [List.length_replicate] at hnx hLt hFt hBt ⊢
        by_cases hkn : t < 40
        · have kI : (t : Int) < 40 := by omega
          have k0 : (0 : Int) ≤ (t : Int) := Int.natCast_nonneg _
          have hmk := Lib.hid (mark_ok (p + 1) (by omega))
          have hsame : ((p + 1 : Nat) : Int) = (p : Int) + 1 := by push_cast; rfl
          rw [hsame] at hmk
          have gA := Lib.hid (World.grownBy_alloc wr (.cells #[.int .u32 (mk (p + 1))] 23) none)
          have hLA := Lib.hid (hLt.keep gA.out)
          have hlen : Hid ((List.replicate (n + t) (mk (p + 1))).length = n + t) := List.length_replicate
          clear hLt
          go_wp2_with (first | (at_builtin; refine wpList_append_lg rfl _ _ 53 rfl 23 .u32 i0 4 Tryz.underlying53 hi0 hz0 hz1 hz2 (.slice Ax (n + t) cx) (List.replicate (n + t) (mk (p + 1))) rfl hLA.out ⟨wr.heap.size, 0, none⟩ (mk (p + 1)) rfl (new_one _ _ _) (by rw [hlen.out]; unfold maxLen; omega) (by rw [hlen.out]; omega) ?_; intro v' w5 hL5 hg5 hat5 hk5) | (go_at_call 65; refine (hmk.out _).mono ?_; rintro e w7 ⟨rfl, rfl⟩))
          have hL6 : Hid (Lg w5 23 .u32 v' (List.replicate (n + (t + 1)) (mk (p + 1)))) := by rw [rep_snoc] at hL5; exact hL5
          rw [hlen.out] at hk5
          have hXs : Hid (X < wr.heap.size) := hAt.lt
          have hRA := hRt.out.keep gA.out
          have hR6 : Hid (RestG w5 K rv q V U' N p) := hRA.step hFt.out hg5 (t := t) (fun u ys hu hle => hk5 u ys hu (fun e => Nat.le_trans (hle e) (by rw [hn.out]; exact Nat.le_refl _)))
          have hF6 : Hid (Far K rv q V U' p X v') := hFt.out.step hRA hlt (by simp; have := hXs.out; omega) hat5
          have hA6 : Hid (Arr w5 X 3 (hx (.slice A n c) (.slice A2 n2 c2) ((p : Int) + 1))) := (hAt.alloc _).kept hg5 hFt.out.nx
          have hB6 : Hid ((∀ b, v'.ownBlock = some b → OwnV q V b ∨ w.heap.size ≤ b) ∧ Fr (fun b => OwnV q V b ∨ rv.ownBlock = some b) w w5) := by
            have f1 := fr_more hBt.out.2 gA.out (by simp)
            refine ⟨fun b hb => ?_, fr_more f1 hg5 fun k e => ?_⟩
            · rcases hat5 with e | e
              · exact hBt.out.1 b (by rw [← e]; exact hb)
              · rw [e] at hb; cases hb
                exact .inr f1.size
            · rcases hBt.out.1 k e with h | h
              · exact .inl (.inl h)
              · exact .inr h
          clear hRA hL5 hk5 hg5 hat5 hAt
          go_wp2_with fail
          go_roundw
          case rel => exact ⟨t + 1, by omega, by go_num, hL6.out, hR6.out, hF6.out, hA6.out, hB6.out⟩
          case measure => exact meas_up 40 t hkn
        · obtain rfl : t = 40 := by omega
          have hKr := hRt.out.bk.cf
          rw [hrv.out] at hKr
          have c1 := hRt.out.bk.at hrv.out (m := p * 3 + 1) (by omega)
          have f1 : wr.frozen? ⟨g, p * 3 + 1, none⟩ = false := by
            have h := hRt.out.bk.row
            rw [hrv.out] at h
            exact World.ownsRow.frozenAt h _
          have gS := Lib.hid (grownBy_setCell wr g (p * 3 + 1) (.slice Ax (n + 40) cx))
          have hrvg : Hid (rv.ownBlock = some g) := by rw [hrv.out]; rfl
          have hRn : Hid (RestG (wr.setCell ⟨g, p * 3 + 1, none⟩ (.slice Ax (n + 40) cx)) K rv q V (up U' p (.slice Ax (n + 40) cx)) N (p + 1)) := by
            refine ⟨hRt.out.bk.store hrv.out hlt _, fun j hj => (hRt.out.vs j hj).kept gS.out ?_, fun j hj => ?_⟩
            · rcases hv : (V j).ownBlock with _ | b
              · exact .inl rfl
              · right; intro e; cases e; exact sep.out g ⟨j, hj, hv⟩ (.inr hrvg.out)
            · by_cases e : j = p
              · subst e
                rw [up_same]
                have h5 : Lg wr 23 .u32 (.slice Ax (n + 40) cx) (fullL N j) := by unfold fullL; rw [hn.out]; exact hLt
                refine h5.kept gS.out ?_
                rcases hv : (Value.slice Ax (n + 40) cx).ownBlock with _ | b
                · exact .inl rfl
                · right; intro e; cases e; exact hFt.out.bk g hv (.inr hrvg.out)
              · rw [up_ne _ _ e]
                refine (hRt.out.us j (by omega)).kept gS.out ?_
                rcases hv : (U' j).ownBlock with _ | b
                · exact .inl rfl
                · right; intro e; cases e; exact hUf.out.2.2 j (by omega) g hv (.inr hrvg.out)
          have hUn : Hid ((∀ i, i < q → ∃ A m d, up U' p (.slice Ax (n + 40) cx) i = .slice A m d) ∧ (∀ j i, j < p + 1 → i < q → i ≠ j → Apart (up U' p (.slice Ax (n + 40) cx) j) (V i)) ∧ (∀ j, j < p + 1 → ∀ b, (up U' p (.slice Ax (n + 40) cx) j).ownBlock = some b → ¬ OwnB K rv b)) := by
            refine ⟨fun i hi => ?_, fun j i hj hi hne => ?_, fun j hj => ?_⟩
            · by_cases e : i = p
              · rw [e, up_same]; exact ⟨_, _, _, rfl⟩
              · rw [up_ne _ _ e]; exact hUf.out.1 i hi
            · by_cases e : j = p
              · subst e; rw [up_same]; exact hFt.out.vs i hi hne
              · rw [up_ne _ _ e]; exact hUf.out.2.1 j i (by omega) hi hne
            · by_cases e : j = p
              · subst e; rw [up_same]; exact hFt.out.bk
              · rw [up_ne _ _ e]; exact hUf.out.2.2 j (by omega)
          have hfn : Hid (Fr (fun b => OwnV q V b ∨ rv.ownBlock = some b) w (wr.setCell ⟨g, p * 3 + 1, none⟩ (.slice Ax (n + 40) cx))) := fr_more hBt.out.2 gS.out (fun k e => by cases e; exact .inl (.inr hrvg.out))
          clear hLt hRt hFt hAt hBt
          go_wp2_with fail
          go_roundw
          case rel => exact ⟨p + 1, _, by omega, by go_num, hRn.out, hUn.out, hfn.out⟩
          case measure => exact meas_up q p hlt
    · obtain rfl : q = p := by omega
      replace hrv := Lib.hid hrv
      clear hA1
      go_wp2_with fail
      refine bodyPost_end (results_none rfl _ _ _) rfl ?_
      exact ⟨⟨_, rfl⟩, ⟨U', hR.out⟩, hfr⟩
end BkWord
end Go.Proofs.YtneamjaglgnmkaaGreatDoor
