/- The book: lists of ints, all written over. -/
import Derived.Test.YtneamjaglgnmkaaGreatDoorBkW2
namespace Go.Proofs.YtneamjaglgnmkaaGreatDoor
open Go.RowKit Go.Shelf Tk
set_option linter.unusedVariables false
set_option linter.unusedSimpArgs false
namespace BkWord
variable {w w' : World} {K : Nat} {rv : Value} {q : Nat} {V U : Nat → Value} {N : Nat → Nat}
def full (N : Nat → Nat) (j : Nat) : List Int := List.replicate (N j) (mk (j + 1))
/-- All but list p, while p is written. -/
structure Rest (w : World) (K : Nat) (rv : Value) (q : Nat) (V U : Nat → Value) (N : Nat → Nat) (p : Nat) : Prop where
  bk : Bk w K rv q V U
  lo : ∀ j, j < p → Lg w 23 .u32 (V j) (full N j)
  hi : ∀ j, p < j → j < q → ∃ xs, xs.length = N j ∧ Lg w 23 .u32 (V j) xs
theorem Rest.fr {S : Nat → Prop} {p : Nat} (h : Rest w K rv q V U N p) (hp : p < q) (g : Fr S w w') (h1 : ∀ b, OwnB K rv b → ¬ S b) (h2 : ∀ j, j < q → j ≠ p → ∀ b, (V j).ownBlock = some b → ¬ S b) : Rest w' K rv q V U N p :=
  ⟨h.bk.fr g (h1 _ (.inl rfl)) (fun b hb => h1 _ (.inr hb)), fun j hj => (h.lo j hj).fr g (h2 j (by omega) (by omega)),
    fun j hj hq => by obtain ⟨xs, hl, hL⟩ := h.hi j hj hq; exact ⟨xs, hl, hL.fr g (h2 j hq (by omega))⟩⟩
def OwnV (q : Nat) (V : Nat → Value) (b : Nat) : Prop := ∃ i, i < q ∧ (V i).ownBlock = some b
def hx (a b : Value) (n : Int) (i : Nat) : Value := if i = 0 then a else if i = 1 then b else .int .i64 n
theorem cell_far {w : World} {b o X i : Nat} {v : Value} (h : X ≠ b) : (w.setCell ⟨b, o, none⟩ v).cell? ⟨X, i, none⟩ = w.cell? ⟨X, i, none⟩ := World.cell?_of_block (Below.heap_setCell _ _ _ X h)
theorem meas_up (n k : Nat) (h : k < n) : n - (intOf (.int .i64 ((k : Int) + 1))).toNat < n - (intOf (.int .i64 (k : Int))).toNat := by simp [intOf]; omega
set_option maxRecDepth 100000 in
set_option maxHeartbeats 4000000 in
theorem fill_ok (h : Bk w K rv q V U) (hq : q ≤ 1000) (hN : ∀ i, i < q → N i ≤ 5000) (hV : ∀ i, i < q → ∃ xs, xs.length = N i ∧ Lg w 23 .u32 (V i) xs) (hU : ∀ i, i < q → ∃ A n c, U i = .slice A n c)
    (ap : ∀ i j, i < q → j < q → i ≠ j → Apart (V i) (V j)) (sep : ∀ b, OwnV q V b → ¬ OwnB K rv b) :
    Calls Tryz.prog 29 #[.pointer (some ⟨K, 0, none⟩)] w fun e w' => (∃ x, e = .returned x) ∧ Bk w' K rv q V U ∧ (∀ i, i < q → Lg w' 23 .u32 (V i) (full N i)) ∧ Fr (OwnV q V) w w' := by
  replace hN := Lib.hid hN
  replace hU := Lib.hid hU
  replace ap := Lib.hid ap
  replace sep := Lib.hid sep
  have hst : Hid ((∀ j, j < 0 → Lg w 23 .u32 (V j) (full N j)) ∧ ∀ j, 0 ≤ j → j < q → ∃ xs, xs.length = N j ∧ Lg w 23 .u32 (V j) xs) := ⟨fun j hj => absurd hj (Nat.not_lt_zero _), fun j _ hj => hV j hj⟩
  clear hV
  go_enter Tryz.func29, Tryz.ntmps29
  go_wp2_with fail
  go_loopw [2] (fun i wr => ∃ p : Nat, p ≤ q ∧ i = .int .i64 p ∧ Bk wr K rv q V U ∧ Hid ((∀ j, j < p → Lg wr 23 .u32 (V j) (full N j)) ∧ ∀ j, p ≤ j → j < q → ∃ xs, xs.length = N j ∧ Lg wr 23 .u32 (V j) xs) ∧ Fr (OwnV q V) w wr) (fun i _ => q - (intOf i).toNat)
  case atStart => exact ⟨0, Nat.zero_le _, rfl, h, hst, Fr.refl _ _⟩
  case round =>
    obtain ⟨p, hp, rfl, hB, hL, hfr⟩ := hrel
    clear h hst
    obtain ⟨A1, c1, hrv, hqc, hA1⟩ := hB.form
    have hKc := hB.cf
    rw [hrv] at hKc
    by_cases hlt : p < q
    · obtain ⟨g, rfl⟩ := hA1 (by omega)
      obtain ⟨ys, hys, hLp⟩ := hL.out.2 p (Nat.le_refl _) hlt
      obtain ⟨A, c, hVp, hnc, -⟩ := hLp.sl
      obtain ⟨A2, n2, c2, hUp⟩ := hU.out p hlt
      have r0 := hB.at hrv (m := p * 3) (by omega)
      have r1 := hB.at hrv (m := p * 3 + 1) (by omega)
      have r2 := hB.at hrv (m := p * 3 + 2) (by omega)
      rw [rc0, hVp, hys] at r0
      rw [rc1, hUp] at r1
      rw [rc2] at r2
      obtain ⟨n, hn⟩ : ∃ n, N p = n := ⟨_, rfl⟩
      have hn5 : n ≤ 5000 := by rw [← hn]; exact hN.out p hlt
      rw [hn] at r0
      have hpI : (p : Int) < (q : Int) := by omega
      have hp0 : (0 : Int) ≤ (p : Int) := Int.natCast_nonneg _
      have hpq : (p : Int) ≤ 1000 := by omega
      have hAX := Arr.new wr #[.slice A n c, .slice A2 n2 c2, .int .i64 ((p : Int) + 1)] 123 3 (hx (.slice A n c) (.slice A2 n2 c2) ((p : Int) + 1)) rfl (fun i hi => by
        rcases (by omega : i = 0 ∨ i = 1 ∨ i = 2) with rfl | rfl | rfl <;> rfl)
      have hgX := World.grownBy_alloc wr (.cells #[.slice A n c, .slice A2 n2 c2, .int .i64 ((p : Int) + 1)] 123) none
      have hRest : Hid (Rest wr K rv q V U N p) := ⟨hB, hL.out.1, fun j h1 h2 => hL.out.2 j (by omega) h2⟩
      have hLp1 := hLp.keep hgX
      have hRest1 : Hid (Rest (wr.alloc (.cells #[.slice A n c, .slice A2 n2 c2, .int .i64 ((p : Int) + 1)] 123)) K rv q V U N p) := hRest.out.fr hlt (S := fun _ => False) (Fr.of_grown hgX (by simp)) (fun _ _ => id) (fun _ _ _ _ _ => id)
      have hfr1 := hfr.trans (Fr.of_grown (S := OwnV q V) hgX (by simp))
      have hvX : Hid (∀ b, (V p).ownBlock = some b → b < wr.heap.size) := hLp.lt
      obtain ⟨X, hX⟩ : ∃ X, wr.heap.size = X := ⟨_, rfl⟩
      rw [hX] at hAX hvX
      rw [hn] at hys
      rw [hys] at hVp
      have hpc : ((p + 1 : Nat) : Int) = (p : Int) + 1 := by push_cast; rfl
      rw [hpc] at r2
      replace hVp := Lib.hid hVp
      replace hUp := Lib.hid hUp
      replace hrv := Lib.hid hrv
      replace hn := Lib.hid hn
      clear hB hL hA1 hRest hLp hgX hfr hpc
      go_wp2_with fail
      clear hX r0 r1 r2 hKc
      obtain ⟨W1, hW1⟩ : ∃ W1, wr.alloc (.cells #[.slice A n c, .slice A2 n2 c2, .int .i64 ((p : Int) + 1)] 123) = W1 := ⟨_, rfl⟩
      rw [hW1] at hAX hLp1 hRest1 hfr1 ⊢
      clear hW1
      go_loopw [4] (fun z wr2 => ∃ (k : Nat) (zs : List Int), k ≤ n ∧ z = .int .i64 k ∧ zs.length = n ∧ Hid (∀ m, m < k → gd zs m = mk (p + 1)) ∧ Lg wr2 23 .u32 (V p) zs ∧ Hid (Rest wr2 K rv q V U N p) ∧ Arr wr2 X 3 (hx (.slice A n c) (.slice A2 n2 c2) ((p : Int) + 1)) ∧ Fr (OwnV q V) w wr2) (fun z _ => n - (intOf z).toNat)
      case atStart => exact ⟨0, ys, Nat.zero_le _, rfl, hys, fun m hm => absurd hm (Nat.not_lt_zero _), hLp1, hRest1.out, hAX, hfr1⟩
      case round =>
        obtain ⟨k, zs, hk, rfl, hzl, hzm, hLz, hRz, hAz, hfz⟩ := hrel
        have x0 : wr.cell? ⟨X, 0, none⟩ = some (.slice A n c) := hAz.cell (i := 0) (by decide)
        have x2 : wr.cell? ⟨X, 2, none⟩ = some (.int .i64 ((p : Int) + 1)) := hAz.cell (i := 2) (by decide)
        by_cases hkn : k < n
        · have hzl0 : 0 < zs.length := by omega
          obtain ⟨gv, cv, hVg, hRw⟩ : ∃ gv cv, V p = .slice (some ⟨gv, 0, none⟩) zs.length cv ∧ Rw wr 23 .u32 gv cv zs := by
            rcases hLz with ⟨-, h⟩ | h
            · rw [h] at hzl0; simp at hzl0
            · exact h
          have hAg : A = some ⟨gv, 0, none⟩ := by have := hVp.out; rw [hVg, hzl] at this; cases this; rfl
          subst hAg
          have hgX : X ≠ gv := by have := hvX.out gv (by rw [hVg]; rfl); omega
          have hce := hRw.cell (i := k) (by omega)
          have hfe := hRw.frozen k
          have hced : wr.drew.cell? ⟨gv, k, none⟩ = some (.int .u32 (gd zs k)) := hce
          have hfed : wr.drew.frozen? ⟨gv, k, none⟩ = false := hfe
          have kI : (k : Int) < (n : Int) := by omega
          have k0 : (0 : Int) ≤ (k : Int) := Int.natCast_nonneg _
          have hmk := Lib.hid (mark_ok (p + 1) (by omega))
          have hsame : ((p + 1 : Nat) : Int) = (p : Int) + 1 := by push_cast; rfl
          rw [hsame] at hmk
          have gS := grownBy_setCell wr.drew gv k (.int .u32 (mk (p + 1)))
          have fS : Fr (fun b => b = gv) wr.drew (wr.drew.setCell ⟨gv, k, none⟩ (.int .u32 (mk (p + 1)))) := Fr.of_grown gS (fun b e _ => by cases e; rfl)
          have hown : OwnV q V gv := ⟨p, hlt, by rw [hVg]; rfl⟩
          have hR2 : Hid (Rest (wr.drew.setCell ⟨gv, k, none⟩ (.int .u32 (mk (p + 1)))) K rv q V U N p) := by
            refine (hRz.out.fr hlt (S := fun _ => False) ((Fr.refl _ wr).drew) (fun _ _ => id) (fun _ _ _ _ _ => id)).fr hlt fS ?_ ?_
            · rintro b hb rfl; exact sep.out _ hown hb
            · rintro j hj hne b hb rfl
              rcases ap.out j p hj hlt hne with h | h
              · rw [hb] at h; cases h
              · exact h (by rw [hb, hVg]; rfl)
          have hL2 : Hid (Lg (wr.drew.setCell ⟨gv, k, none⟩ (.int .u32 (mk (p + 1)))) 23 .u32 (V p) (zs.set k (mk (p + 1)))) := .inr ⟨gv, cv, by rw [hVg, List.length_set], Rw.set (w := wr.drew) hRw (by omega) _⟩
          have hA2 : Hid (Arr (wr.drew.setCell ⟨gv, k, none⟩ (.int .u32 (mk (p + 1)))) X 3 (hx (.slice (some ⟨gv, 0, none⟩) n c) (.slice A2 n2 c2) ((p : Int) + 1))) := (hAz.drew).fr fS (fun e => hgX e)
          have hf2 : Hid (Fr (OwnV q V) w (wr.drew.setCell ⟨gv, k, none⟩ (.int .u32 (mk (p + 1))))) := hfz.drew.trans (Fr.of_grown gS (fun b e _ => by cases e; exact hown))
          have hz2 : Hid (∀ m, m < k + 1 → gd (zs.set k (mk (p + 1))) m = mk (p + 1)) := fun m hm => by
            unfold gd
            rw [List.getElem?_set]
            by_cases e : k = m
            · subst e; rw [if_pos rfl, if_pos (by omega)]; rfl
            · rw [if_neg e]; exact hzm.out m (by omega)
          have hS0 : Hid ((wr.setCell ⟨gv, k, none⟩ (.int .u32 (mk (p + 1)))).drew.cell? ⟨X, 0, none⟩ = some (.slice (some ⟨gv, 0, none⟩) n c)) := (cell_far (w := wr) hgX).trans x0
          have hS2 : Hid ((wr.setCell ⟨gv, k, none⟩ (.int .u32 (mk (p + 1)))).drew.cell? ⟨X, 2, none⟩ = some (.int .i64 ((p : Int) + 1))) := (cell_far (w := wr) hgX).trans x2
          replace hVg := Lib.hid hVg
          clear hLz hRz hAz hfz hRw gS fS hfr1 hAX hLp1 hRest1
          go_wp2_with fail
          go_region_held3 (fun w' => w'.cell? ⟨X, 0, none⟩ = some (.slice (some ⟨gv, 0, none⟩) n c) ∧ w'.cell? ⟨X, 2, none⟩ = some (.int .i64 ((p : Int) + 1))) (first | exact ⟨hS0.out, hS2.out⟩ | exact ⟨x0, x2⟩ | go_keep)
            (first | (go_at_call 65; refine (hmk.out _).mono ?_; rintro e w7 ⟨rfl, rfl⟩))
          all_goals
            go_wp2_with fail
            go_roundw
            case rel => exact ⟨k + 1, zs.set k (mk (p + 1)), by omega, by go_num, by rw [List.length_set]; exact hzl, hz2, hL2.out, hR2.out, hA2.out, hf2.out⟩
            case measure => exact meas_up n k hkn
        · obtain rfl : n = k := by omega
          have hzf : Hid (zs = full N p) := ext_gd (by unfold full; rw [List.length_replicate, hn.out, hzl]) (fun m hm => by
            rw [hzm.out m (by omega)]
            unfold full gd
            rw [List.getElem?_replicate, if_pos (by rw [hn.out]; omega)]; rfl)
          have hR3 := Lib.hid hRz.out.bk
          have hL3 : Hid ((∀ j, j < p + 1 → Lg wr 23 .u32 (V j) (full N j)) ∧ ∀ j, p + 1 ≤ j → j < q → ∃ xs, xs.length = N j ∧ Lg wr 23 .u32 (V j) xs) := ⟨fun j hj => by
            by_cases e : j = p
            · subst e; rw [← hzf.out]; exact hLz
            · exact hRz.out.lo j (by omega), fun j h1 h2 => hRz.out.hi j (by omega) h2⟩
          clear hLz hRz hAz hfr1 hAX hLp1 hRest1
          go_wp2_with fail
          go_roundw
          case rel => exact ⟨p + 1, by omega, by go_num, hR3.out, hL3, hfz⟩
          case measure => exact meas_up q p hlt
    · obtain rfl : q = p := by omega
      replace hrv := Lib.hid hrv
      have hLo := Lib.hid hL.out.1
      clear hA1 hL
      go_wp2_with fail
      refine bodyPost_end (results_none rfl _ _ _) rfl ?_
      exact ⟨⟨_, rfl⟩, hB, hLo.out, hfr⟩
end BkWord
end Go.Proofs.YtneamjaglgnmkaaGreatDoor
