/- ObjectsBlocks: each block of a pool is free, or somebody's. -/
import Derived.Test.YtneamjaglgnmkaaObP3
import Derived.Test.YtneamjaglgnmkaaSameW
import Derived.Test.YtneamjaglgnmkaaVrw
namespace Go.Proofs.Ytneamjaglgnmkaa
open Go.RowKit Go.Shelf Tk
set_option linter.unusedVariables false
set_option linter.unusedSimpArgs false
theorem see_own (k : Nat) (a b n o : Int) (row owners : Value) (w : World) : (Instr.field 39 (thV k a b n o row owners) 5).run Try.prog w = .ok owners w := by kernel_rfl
theorem meas_b (n k : Nat) (h : k < n) : n - (intOf (.int .i64 ((k : Int) + 1))).toNat < n - (intOf (.int .i64 (k : Int))).toNat := by simp [intOf]; omega
/-- Words in a block of N cells. -/
def Ow (w : World) (g N : Nat) (os : List Int) : Prop := Arr w g N (fun i => .int .u32 (gd os i))
theorem Ow.kept {w w' : World} {g N : Nat} {os : List Int} {r : Option Nat} (h : Ow w g N os) (hg : w.grownBy w' r) (hr : r ≠ some g) : Ow w' g N os := Arr.kept h hg hr
theorem Ow.keep {w w' : World} {g N : Nat} {os : List Int} (h : Ow w g N os) (hg : w.grownBy w' none) : Ow w' g N os := h.kept hg (by simp)
theorem Ow.set {w : World} {g N : Nat} {os : List Int} (h : Ow w g N os) (hl : os.length = N) {k : Nat} (hk : k < N) (x : Int) : Ow (w.setCell ⟨g, k, none⟩ (.int .u32 x)) g N (os.set k x) := by
  refine (Arr.set h hk (.int .u32 x)).congr fun i hi => ?_
  rw [PolN.gd_set (by omega)]
  by_cases e : i = k
  · rw [if_pos e, if_pos e]
  · rw [if_neg e, if_neg e]
theorem Ow.sl {w : World} {g N : Nat} {os : List Int} (h : Ow w g N os) (hl : os.length = N) : SlA w 0 w.heap.size .u32 (some ⟨g, 0, none⟩) os :=
  ⟨Nat.le_refl _, .inr ⟨g, 0, rfl, Nat.zero_le _, Arr.lt h, fun i hi => by
    rw [Nat.zero_add, Arr.cell h (by omega), gd_lt hi]⟩⟩
theorem Ow.at {w : World} {g N : Nat} {os : List Int} (h : Ow w g N os) {k : Nat} (hk : k < N) : w.cell? ⟨g, k, none⟩ = some (.int .u32 (gd os k)) := Arr.cell h hk
theorem Ow.fz {w : World} {g N : Nat} {os : List Int} (h : Ow w g N os) (k : Nat) : w.frozen? ⟨g, k, none⟩ = false := Arr.frozen h k
/-- A pool as a thing, and the law's own list beside it. -/
structure BS (w0 w : World) (p q B g N : Nat) (ot oo : List Int) : Prop where
  th : Plt w p q B 8 ot
  ow : Ow w g N oo
  lt : ot.length = N
  lo : oo.length = N
  n64 : N ≤ 64
  gp : g ≠ p
  gq : g ≠ q
  gB : g ≠ B
  bB : w0.heap.size ≤ B
  bg : w0.heap.size ≤ g
  gr : w0.grownBy w none
theorem Plt.far {w w' : World} {p q B g : Nat} {os : List Int} {z : Int} (h : Plt w p q B z os) (hg : w.grownBy w' (some g)) (gp : g ≠ p) (gq : g ≠ q) (gB : g ≠ B) : Plt w' p q B z os :=
  ⟨h.hd.kept hg (by simpa using gp), h.pb.kept hg (by simpa using gq), h.pl.kept hg (by simpa using gB), h.pB, h.qB⟩
theorem Ow.far {w w' : World} {B g N : Nat} {os : List Int} (h : Ow w g N os) (hg : w.grownBy w' (some B)) (gB : g ≠ B) : Ow w' g N os := h.kept hg (by simpa using fun e => gB e.symm)
variable {w0 w w' : World} {p q B g N : Nat} {ot oo os os' : List Int}
theorem BS.keep (h : BS w0 w p q B g N ot oo) (hg : w.grownBy w' none) : BS w0 w' p q B g N ot oo :=
  ⟨h.th.keep hg, h.ow.keep hg, h.lt, h.lo, h.n64, h.gp, h.gq, h.gB, h.bB, h.bg, grown_trans h.gr hg⟩
/-- The thing's step. -/
theorem BS.turn (h : BS w0 w p q B g N ot oo) (ht : Plt w' p q B 8 os') (hl : os'.length = ot.length) (hg : w.grownBy w' (some B)) : BS w0 w' p q B g N os' oo :=
  ⟨ht, h.ow.far hg h.gB, hl.trans h.lt, h.lo, h.n64, h.gp, h.gq, h.gB, h.bB, h.bg, grown_step h.gr hg h.bB⟩
/-- The list's step. -/
theorem BS.store (h : BS w0 w p q B g N ot oo) {j : Nat} (hj : j < N) (x : Int) : BS w0 (w.setCell ⟨g, j, none⟩ (.int .u32 x)) p q B g N ot (oo.set j x) :=
  ⟨h.th.far (grownBy_setCell _ _ _ _) h.gp h.gq h.gB, h.ow.set h.lo hj x, h.lt, by rw [List.length_set]; exact h.lo, h.n64, h.gp, h.gq, h.gB, h.bB, h.bg, grown_step h.gr (grownBy_setCell _ _ _ _) h.bg⟩
theorem BS.alloc (h : BS w0 w p q B g N os oo) (who : Int) (hw : who ≠ 0) :
    Calls Try.prog 8 #[.pointer (some ⟨p, 0, none⟩), .int .u32 who, askV 14 0 0 0 0] w fun e w' =>
      (∃ j : Nat, e = .returned (.tuple #[.int .u32 j, .int .i64 0]) ∧ j < N ∧ gd os j = 0 ∧ BS w0 w' p q B g N (os.set j who) oo) ∨
      (e = .returned (.tuple #[.int .u32 0, .int .i64 7]) ∧ (∀ i, i < N → gd os i ≠ 0) ∧ BS w0 w' p q B g N os oo) := by
  refine (h.th.alloc who hw 0 0 0 0).mono ?_
  rintro e w' (⟨j, rfl, h1, h2, h3, h4, h5⟩ | ⟨rfl, h1, h2, h3⟩)
  · exact .inl ⟨j, rfl, by rw [← h.lt]; exact h1, h2, h.turn h4 (by simp) h5⟩
  · exact .inr ⟨rfl, by rw [← h.lt]; exact h1, h.keep h3⟩
theorem BS.free (h : BS w0 w p q B g N os oo) (who : Int) (hw : who ≠ 0) (j : Nat) (hj : j < N) (ho : gd os j = who) :
    Calls Try.prog 8 #[.pointer (some ⟨p, 0, none⟩), .int .u32 who, askV 15 0 j 0 0] w fun e w' => e = .returned (.tuple #[.int .u32 0, .int .i64 0]) ∧ BS w0 w' p q B g N (os.set j 0) oo := by
  refine (h.th.free who hw j (by rw [h.lt]; exact hj) ho 0 0 0).mono ?_
  rintro e w' ⟨rfl, h1, h2⟩
  exact ⟨rfl, h.turn h1 (by simp) h2⟩
theorem BS.free_no (h : BS w0 w p q B g N os oo) (who : Int) (hw : who ≠ 0) (j : Nat) (hj : j < N) (ho : gd os j ≠ who) :
    Calls Try.prog 8 #[.pointer (some ⟨p, 0, none⟩), .int .u32 who, askV 15 0 j 0 0] w fun e w' => e = .returned (.tuple #[.int .u32 0, .int .i64 13]) ∧ BS w0 w' p q B g N os oo := by
  refine (h.th.free_no who hw j (by rw [h.lt]; exact hj) ho 0 0 0).mono ?_
  rintro e w' ⟨rfl, h1, h2⟩
  exact ⟨rfl, h.keep h2⟩
theorem BS.leave (h : BS w0 w p q B g N os oo) (who : Int) (hw : who ≠ 0) :
    Calls Try.prog 11 #[.pointer (some ⟨p, 0, none⟩), .int .u32 who] w fun e w' => (∃ b, e = .returned (.bool b)) ∧ BS w0 w' p q B g N (os.map fun x => if x = who then 0 else x) oo := by
  refine (h.th.leave who hw).mono ?_
  rintro e w' ⟨rfl, h1, h2⟩
  exact ⟨⟨_, rfl⟩, h.turn h1 (by simp) h2⟩
theorem BS.see (h : BS w0 w p q B g N os oo) : Calls Try.prog 9 #[.pointer (some ⟨p, 0, none⟩)] w fun e w' =>
    ∃ A k c, e = .returned (thV 5 N 8 c 0 (.slice none 0 0) (.slice A N k)) ∧ N ≤ k ∧ SlA w' 0 w'.heap.size .u32 A os ∧ BS w0 w' p q B g N os oo := by
  refine h.th.see.mono ?_
  rintro e w' ⟨A, k, rfl, hk, hM, hg⟩
  have hs := hM.sl
  rw [h.lt] at hk ⊢
  exact ⟨A, k, _, rfl, hk, hs.wide (Nat.zero_le _) (Nat.le_refl _) (Nat.le_refl _), h.keep hg⟩
theorem BS.same (h : BS w0 w p q B g N ot os) {A : Option Addr} {k : Nat} (hk : N ≤ k) (hA : SlA w 0 w.heap.size .u32 A os) :
    Calls Try.prog 10 #[.slice A N k, .slice (some ⟨g, 0, none⟩) N N] w fun e w' => e = .returned (.bool true) ∧ BS w0 w' p q B g N ot os := by
  have hn := h.n64
  have := sameWords_any A (some ⟨g, 0, none⟩) k N _ _ _ _ os os w (by rw [h.lo]; exact hk) (by rw [h.lo]; exact Nat.le_refl _) (by rw [h.lo]; omega) (by rw [h.lo]; omega) hA (h.ow.sl h.lo)
  rw [h.lo] at this
  exact this.mono fun e w' ⟨he, n, hw⟩ => ⟨by rw [he, decide_eq_true rfl], by rw [← hw]; exact h.keep (grown_drewN (grown_refl _ _) n)⟩
theorem hmake (N : Nat) (h1 : N ≤ 64) (w : World) : (Instr.makeSlice 37 (.int .u32 N) (.int .u32 N)).run Try.prog w = .ok (.slice (some ⟨w.heap.size, 0, none⟩) N N) (w.alloc (.cells (madeCells #[.int .u32 0] N) 22)) := by
  obtain ⟨i0, hi0, hz0, hz1, hz2⟩ := info_parts PolN.infoWord
  have := run_make (P := Try.prog) w 37 22 i0 (.int .u32 0) Try.underlying37 hi0 hz0 .u32 .u32 N N (by omega) (Int.le_refl _) (by rw [hz2]; omega) (by omega)
  rw [hz1] at this
  simpa [Value.cells] using this
theorem Ow.made (N : Nat) (w : World) : Ow (w.alloc (.cells (madeCells #[.int .u32 0] N) 22)) w.heap.size N (List.replicate N 0) :=
  Arr.new w _ _ N _ (by rw [size_madeCells]) fun i hi => by rw [PolN.gd_rep]; simp [madeCells, hi, Nat.mod_one]
set_option maxRecDepth 100000 in
set_option maxHeartbeats 8000000 in
theorem objectsBlocks_walk (a : Int) (wa : (Lit.int .u8 a).wf = true) (A : Option Addr) (c n : Nat) (V : Nat → Nat → Value) (hl : n ≤ c) (w : World)
    (hs : VRow w 7 A n V) (hf : ∀ i, i < n → ∀ q, q < 7 → Fit (([none, some .u32, some .u8, some .u32, some .u32, some .u32, some .i64] : List (Option IntKind)).getD q none) (V i q)) (hbd : n * 32 ≤ 140737488351232) :
    Calls Try.prog 5 #[.int .u8 a, .slice A n c] w fun e w' => e = .returned (.bool true) ∧ w.grownBy w' none := by
  obtain ⟨a0, a1⟩ := wf_u8 wa
  clear wa
  obtain ⟨N, hN, hN1, hN2⟩ : ∃ N : Nat, (1 + a % 64) = (N : Int) ∧ 1 ≤ N ∧ N ≤ 64 := ⟨(a % 64).toNat + 1, by omega, by omega, by omega⟩
  have hw1 : IntKind.u32.wrap a = a := by rw [IntKind.wrap_u32]; omega
  have hw2 : IntKind.u32.wrap (1 + a % 64) = N := by rw [IntKind.wrap_u32]; omega
  have hw3 : IntKind.i64.wrap (N : Int) = N := by rw [IntKind.wrap_i64]; omega
  have ht : a.tmod 64 = a % 64 := by rw [Int.tmod_eq_emod_of_nonneg a0]
  have hnew := Lib.hid (new_pool N hN1 hN2 8 (by decide) (by decide) w)
  replace hs := Lib.hid hs
  replace hf := Lib.hid hf
  replace hN := Lib.hid hN
  by_cases hlen : n ≤ 300
  · have hmk := hmake N hN2
    go_enter Try.func5, Try.ntmps5
    go_wp2_with (go_at_call 6; refine hnew.out.mono ?_; rintro e w1 ⟨p, q, B, rfl, hd, hp, hq, hB, hg⟩; have hB1 := hd.pl.arr.lt; have hp1 := hd.hd.lt; have hq1 := hd.pb.lt; replace hd := Lib.hid hd; replace hg := Lib.hid hg; clear hnew)
    have hS0 : Hid (BS w (w1.alloc (.cells (madeCells #[.int .u32 0] N) 22)) p q B w1.heap.size N (List.replicate N 0) (List.replicate N 0)) :=
      ⟨hd.out.keep (World.grownBy_alloc _ _ _), Ow.made N w1, List.length_replicate, List.length_replicate, hN2, by omega, by omega, by omega, hB, hg.out.size, grown_alloc hg.out _⟩
    generalize w1.heap.size = g at *
    generalize (w1.alloc (.cells (madeCells #[.int .u32 0] N) 22)) = w2 at *
    clear hd hg hp hq hB hmk hB1 hp1 hq1 hw1 hw2 ht
    go_loopw [9] (fun i wr => ∃ (k : Nat) (os : List Int), k ≤ n ∧ i = .int .i64 k ∧ Hid (BS w wr p q B g N os os)) (fun i _ => n - (intOf i).toNat)
    case atStart => exact ⟨0, _, Nat.zero_le _, rfl, hS0⟩
    case round =>
      obtain ⟨k, os, hk, rfl, hS⟩ := hrel
      clear hS0
      by_cases hlt : k < n
      · obtain ⟨gb, o, rfl, hgb, hcs⟩ := (hs.out.kept hS.out.gr).at hlt
        obtain ⟨lv, e0⟩ : ∃ tk, V k 0 = .bool tk := hf.out k hlt 0 (by decide)
        obtain ⟨x1, e1, f1⟩ : ∃ x, V k 1 = .int .u32 x ∧ (Lit.int .u32 x).wf = true := hf.out k hlt 1 (by decide)
        obtain ⟨x2, e2, f2⟩ : ∃ x, V k 2 = .int .u8 x ∧ (Lit.int .u8 x).wf = true := hf.out k hlt 2 (by decide)
        obtain ⟨x3, e3, f3⟩ : ∃ x, V k 3 = .int .u32 x ∧ (Lit.int .u32 x).wf = true := hf.out k hlt 3 (by decide)
        obtain ⟨x4, e4, f4⟩ : ∃ x, V k 4 = .int .u32 x ∧ (Lit.int .u32 x).wf = true := hf.out k hlt 4 (by decide)
        obtain ⟨x5, e5, f5⟩ : ∃ x, V k 5 = .int .u32 x ∧ (Lit.int .u32 x).wf = true := hf.out k hlt 5 (by decide)
        obtain ⟨x6, e6, f6⟩ : ∃ x, V k 6 = .int .i64 x ∧ (Lit.int .i64 x).wf = true := hf.out k hlt 6 (by decide)
        have hc0 := hcs 0 (by decide); rw [e0] at hc0
        have hc1 := hcs 1 (by decide); rw [e1] at hc1
        have hc2 := hcs 2 (by decide); rw [e2] at hc2
        have hc3 := hcs 3 (by decide); rw [e3] at hc3
        have hc4 := hcs 4 (by decide); rw [e4] at hc4
        have hc5 := hcs 5 (by decide); rw [e5] at hc5
        have hc6 := hcs 6 (by decide); rw [e6] at hc6
        simp only [Nat.add_zero] at hc0
        clear hcs e0 e1 e2 e3 e4 e5 e6 hgb f2 f3 f6
        have hsn := see_own
        obtain ⟨x10, x11⟩ := wf_u32 f1
        obtain ⟨x40, x41⟩ := wf_u32 f4
        obtain ⟨x50, x51⟩ := wf_u32 f5
        obtain ⟨r, hr, hr4⟩ : ∃ r : Nat, x1.tmod 4 = (r : Int) ∧ r < 4 := ⟨(x1 % 4).toNat, by rw [Int.tmod_eq_emod_of_nonneg x10]; omega, by omega⟩
        have hgA := Lib.hid (World.grownBy_alloc wr (.cells #[.bool lv, .int .u32 x1, .int .u8 x2, .int .u32 x3, .int .u32 x4, .int .u32 x5, .int .i64 x6] 46) none)
        have hr1 : IntKind.u32.wrap (1 + (r : Int)) = 1 + r := by rw [IntKind.wrap_u32]; omega
        have hr2 : (1 + (r : Int)) % 4294967296 = 1 + r := by omega
        have hr0 : (1 + (r : Int)) ≠ 0 := by omega
        replace hr0 := Lib.hid hr0
        obtain ⟨j, hj, hjN⟩ : ∃ j : Nat, x5.tmod (N : Int) = (j : Int) ∧ j < N := ⟨(x5 % N).toNat, by
          rw [Int.tmod_eq_emod_of_nonneg x50]
          have := Int.emod_nonneg x5 (show (N : Int) ≠ 0 by omega)
          omega, by
          have := Int.emod_lt_of_pos x5 (show (0 : Int) < N by omega)
          have := Int.emod_nonneg x5 (show (N : Int) ≠ 0 by omega)
          omega⟩
        clear f1 f4 f5 x10 x11 x40 x41 x50 x51 hs hf hN
        cases lv
        · by_cases hev : (x4.tmod 2 == 0) = true
          · clear hj hjN
            go_wp2_with fail
            refine ((hS.out.keep hgA.out).alloc _ hr0.out).mono ?_
            rintro e w3 (⟨v, rfl, hv, hv0, hS3⟩ | ⟨rfl, hno, hS3⟩)
            · clear hc0 hc1 hc2 hc3 hc4 hc5 hc6 hgA
              have hc := hS3.ow.at hv
              have hz := hS3.ow.fz v
              rw [hv0] at hc
              replace hv0 := Lib.hid hv0
              have hvI : (v : Int) < (N : Int) := by omega
              have hvN : ¬ N ≤ v := by omega
              replace hS := Lib.hid (hS3.store hv (1 + (r : Int)))
              clear hS3
              go_wp2_with (first
                | (go_at_call 9; refine hS.out.see.mono ?_; rintro e w8 ⟨A8, k8, c8, rfl, hk8, hA8, hS8⟩; replace hS := Lib.hid hS8; replace hA8 := Lib.hid hA8; clear hS8)
                | (go_at_call 10; refine (hS.out.same hk8 hA8.out).mono ?_; rintro e w9 ⟨rfl, hS9⟩; replace hS := Lib.hid hS9; clear hS9 hA8))
              go_roundw
              case rel => exact ⟨k + 1, _, by omega, by go_num, hS⟩
              case measure => exact meas_b n k hlt
            · clear hc0 hc1 hc2 hc3 hc4 hc5 hc6 hgA
              replace hno := Lib.hid hno
              replace hS := Lib.hid hS3
              clear hS3
              go_wp2_with fail
              go_loopw [15] (fun i wl => ∃ m : Nat, m ≤ N ∧ i = .int .i64 m ∧ Hid (BS w wl p q B g N os os)) (fun i _ => N - (intOf i).toNat)
              case atStart => exact ⟨0, Nat.zero_le _, rfl, hS⟩
              case round =>
                obtain ⟨m, hm, rfl, hSl⟩ := hrel
                clear hS
                by_cases hmN : m < N
                · have hc := hSl.out.ow.at hmN
                  have hnz : (gd os m == 0) = false := by simpa using hno.out m hmN
                  have hmI : (m : Int) < (N : Int) := by omega
                  generalize gd os m = y at *
                  go_wp2_with fail
                  go_roundw
                  case rel => exact ⟨m + 1, by omega, by go_num, hSl⟩
                  case measure => exact meas_b N m hmN
                · obtain rfl : N = m := by omega
                  have hS := hSl
                  clear hSl
                  go_wp2_with (first
                    | (go_at_call 9; refine hS.out.see.mono ?_; rintro e w8 ⟨A8, k8, c8, rfl, hk8, hA8, hS8⟩; replace hS := Lib.hid hS8; replace hA8 := Lib.hid hA8; clear hS8)
                    | (go_at_call 10; refine (hS.out.same hk8 hA8.out).mono ?_; rintro e w9 ⟨rfl, hS9⟩; replace hS := Lib.hid hS9; clear hS9 hA8))
                  go_roundw
                  case rel => exact ⟨k + 1, _, by omega, by go_num, hS⟩
                  case measure => exact meas_b n k hlt
          · replace hev : (x4.tmod 2 == 0) = false := by simpa using hev
            have hjI : (j : Int) < (N : Int) := by omega
            go_wp2_with fail
            by_cases ho : gd os j = 1 + (r : Int)
            · refine ((hS.out.keep hgA.out).free _ hr0.out j hjN ho).mono ?_
              rintro e w3 ⟨rfl, hS3⟩
              clear hc0 hc1 hc2 hc3 hc4 hc5 hc6 hgA
              have hc := hS3.ow.at hjN
              have hz := hS3.ow.fz j
              rw [ho] at hc
              replace ho := Lib.hid ho
              replace hS := Lib.hid (hS3.store hjN 0)
              clear hS3
              go_wp2_with (first
                | (go_at_call 9; refine hS.out.see.mono ?_; rintro e w8 ⟨A8, k8, c8, rfl, hk8, hA8, hS8⟩; replace hS := Lib.hid hS8; replace hA8 := Lib.hid hA8; clear hS8)
                | (go_at_call 10; refine (hS.out.same hk8 hA8.out).mono ?_; rintro e w9 ⟨rfl, hS9⟩; replace hS := Lib.hid hS9; clear hS9 hA8))
              go_roundw
              case rel => exact ⟨k + 1, _, by omega, by go_num, hS⟩
              case measure => exact meas_b n k hlt
            · refine ((hS.out.keep hgA.out).free_no _ hr0.out j hjN ho).mono ?_
              rintro e w3 ⟨rfl, hS3⟩
              clear hc0 hc1 hc2 hc3 hc4 hc5 hc6 hgA
              have hc := hS3.ow.at hjN
              have hnz : (gd os j == 1 + (r : Int)) = false := by simpa using ho
              replace ho := Lib.hid ho
              generalize gd os j = y at *
              replace hS := Lib.hid hS3
              clear hS3
              go_wp2_with (first
                | (go_at_call 9; refine hS.out.see.mono ?_; rintro e w8 ⟨A8, k8, c8, rfl, hk8, hA8, hS8⟩; replace hS := Lib.hid hS8; replace hA8 := Lib.hid hA8; clear hS8)
                | (go_at_call 10; refine (hS.out.same hk8 hA8.out).mono ?_; rintro e w9 ⟨rfl, hS9⟩; replace hS := Lib.hid hS9; clear hS9 hA8))
              go_roundw
              case rel => exact ⟨k + 1, _, by omega, by go_num, hS⟩
              case measure => exact meas_b n k hlt
        · clear hj hjN
          go_wp2_with fail
          refine ((hS.out.keep hgA.out).leave _ hr0.out).mono ?_
          rintro e w3 ⟨⟨lb, rfl⟩, hS3⟩
          clear hc0 hc1 hc2 hc3 hc4 hc5 hc6 hgA
          have hol := Lib.hid hS3.lo
          have hS0 : Hid (BS w w3 p q B g N (os.map fun x => if x = 1 + (r : Int) then 0 else x) (PolN.clr (1 + (r : Int)) os 0)) := by rw [PolN.clr_zero]; exact hS3
          have hcl := Lib.hid (PolN.clr_all (1 + (r : Int)) os)
          rw [hol.out] at hcl
          clear hS3 hS
          go_wp2_with fail
          go_loopw [12] (fun i wl => ∃ m : Nat, m ≤ N ∧ i = .int .i64 m ∧ Hid (BS w wl p q B g N (os.map fun x => if x = 1 + (r : Int) then 0 else x) (PolN.clr (1 + (r : Int)) os m))) (fun i _ => N - (intOf i).toNat)
          case atStart => exact ⟨0, Nat.zero_le _, rfl, hS0⟩
          case round =>
            obtain ⟨m, hm, rfl, hSl⟩ := hrel
            clear hS0
            by_cases hmN : m < N
            · have hmI : (m : Int) < (N : Int) := by omega
              have hc := hSl.out.ow.at hmN
              have hz := hSl.out.ow.fz m
              rw [PolN.gd_clr_at (by rw [hol.out]; exact hmN)] at hc
              by_cases he : gd os m = 1 + (r : Int)
              · have hS4 := Lib.hid (hSl.out.store hmN 0)
                rw [← PolN.clr_succ_eq (by rw [hol.out]; exact hmN) he] at hS4
                rw [he] at hc
                replace he := Lib.hid he
                clear hSl
                go_wp2_with fail
                go_roundw
                case rel => exact ⟨m + 1, by omega, by go_num, hS4⟩
                case measure => exact meas_b N m hmN
              · rw [← PolN.clr_succ_ne (by rw [hol.out]; exact hmN) he] at hSl
                have hnz : (gd os m == 1 + (r : Int)) = false := by simpa using he
                replace he := Lib.hid he
                generalize gd os m = y at *
                go_wp2_with fail
                go_roundw
                case rel => exact ⟨m + 1, by omega, by go_num, hSl⟩
                case measure => exact meas_b N m hmN
            · obtain rfl : N = m := by omega
              have hS := hSl
              rw [hcl.out] at hS
              clear hSl hcl
              generalize (os.map fun x => if x = 1 + (r : Int) then 0 else x) = os2 at *
              go_wp2_with (first
                | (go_at_call 9; refine hS.out.see.mono ?_; rintro e w8 ⟨A8, k8, c8, rfl, hk8, hA8, hS8⟩; replace hS := Lib.hid hS8; replace hA8 := Lib.hid hA8; clear hS8)
                | (go_at_call 10; refine (hS.out.same hk8 hA8.out).mono ?_; rintro e w9 ⟨rfl, hS9⟩; replace hS := Lib.hid hS9; clear hS9 hA8))
              go_roundw
              case rel => exact ⟨k + 1, _, by omega, by go_num, hS⟩
              case measure => exact meas_b n k hlt
      · obtain rfl : k = n := by omega
        go_wp2_with (go_at_call 7; refine (lives_ok _).mono ?_; rintro e w2 ⟨rfl, hg2⟩; replace hg2 := Lib.hid (grown_trans hS.out.gr hg2))
        go_ret
        exact ⟨rfl, hg2.out⟩
  · have hn' : 300 < n := by omega
    go_enter Try.func5, Try.ntmps5
    go_wp2_with (first
      | (go_at_call 6; refine hnew.out.mono ?_; rintro e w1 ⟨p, q, B, rfl, hd, hp, hq, hB, hg⟩; replace hg := Lib.hid hg; clear hnew hd)
      | (go_at_call 7; refine (lives_ok _).mono ?_; rintro e w2 ⟨rfl, hg2⟩; replace hg2 := Lib.hid (grown_trans hg.out hg2)))
    go_ret
    exact ⟨rfl, hg2.out⟩
end Go.Proofs.Ytneamjaglgnmkaa
