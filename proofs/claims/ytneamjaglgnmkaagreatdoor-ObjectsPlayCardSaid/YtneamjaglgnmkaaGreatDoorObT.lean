/- Package objects: a thing's head; what is asked of it goes to its kind. -/
import Derived.Test.YtneamjaglgnmkaaGreatDoorObF
namespace Go.Proofs.YtneamjaglgnmkaaGreatDoor
open Go.RowKit Go.Shelf Tk
set_option linter.unusedVariables false
set_option linter.unusedSimpArgs false
/-- A thing's head: what it is made of, its kind. -/
def Hd (w : World) (p k : Nat) (a b : Int) (T : TypeId) (x : Value) : Prop := w.heap[p]? = some (.cells #[.int .u8 k, .int .u32 a, .int .u32 b, .iface T x] 63 (0, 0))
theorem Hd.lt {w : World} {p k : Nat} {a b : Int} {T : TypeId} {x : Value} (h : Hd w p k a b T x) : p < w.heap.size := (Array.getElem?_eq_some_iff.1 h).1
theorem Hd.kept {w w' : World} {p k : Nat} {a b : Int} {T : TypeId} {x : Value} {r : Option Nat} (h : Hd w p k a b T x) (hg : w.grownBy w' r) (hr : r ≠ some p) : Hd w' p k a b T x := (hg.block p h.lt (fun e => hr e.symm)).trans h
theorem Hd.keep {w w' : World} {p k : Nat} {a b : Int} {T : TypeId} {x : Value} (h : Hd w p k a b T x) (hg : w.grownBy w' none) : Hd w' p k a b T x := h.kept hg (by simp)
theorem Hd.kind {w : World} {p k : Nat} {a b : Int} {T : TypeId} {x : Value} (h : Hd w p k a b T x) : w.cell? ⟨p, 0, none⟩ = some (.int .u8 k) := cell_of h rfl
theorem Hd.ca {w : World} {p k : Nat} {a b : Int} {T : TypeId} {x : Value} (h : Hd w p k a b T x) : w.cell? ⟨p, 1, none⟩ = some (.int .u32 a) := cell_of h rfl
theorem Hd.cb {w : World} {p k : Nat} {a b : Int} {T : TypeId} {x : Value} (h : Hd w p k a b T x) : w.cell? ⟨p, 2, none⟩ = some (.int .u32 b) := cell_of h rfl
theorem Hd.it {w : World} {p k : Nat} {a b : Int} {T : TypeId} {x : Value} (h : Hd w p k a b T x) : w.cell? ⟨p, 3, none⟩ = some (.iface T x) := cell_of h rfl
theorem notNil (T : TypeId) (x : Value) (w : World) : (binOp .neq 61 (.iface T x) .nilIface).run Tryz.prog w = .ok (.bool true) w := by kernel_rfl
theorem tthere_nil (w : World) : Calls Tryz.prog 19 #[.pointer none] w fun e w' => e = .returned (.bool false) ∧ w = w' := by
  go_enter Tryz.func19, Tryz.ntmps19
  go_wp2
  go_ret
  exact ⟨rfl, rfl⟩
theorem Hd.there {w : World} {p k : Nat} {a b : Int} {T : TypeId} {x : Value} (h : Hd w p k a b T x) : Calls Tryz.prog 19 #[.pointer (some ⟨p, 0, none⟩)] w fun e w' => e = .returned (.bool true) ∧ w = w' := by
  have hi := h.it
  have hn := notNil
  clear h
  go_enter Tryz.func19, Tryz.ntmps19
  go_wp2
  go_ret
  exact ⟨rfl, rfl⟩
/-- What is asked. -/
def askV (x h v m t : Int) : Value := .agg #[.int .u8 x, .int .u32 h, .int .u32 v, .int .u32 m, .int .i64 t]
set_option maxRecDepth 100000 in
set_option maxHeartbeats 4000000 in
theorem Hd.try_of {w : World} {p k : Nat} {a b : Int} {T : TypeId} {x y : Value} {F : Nat} {R : World → Value → Value → World → Prop} (h : Hd w p k a b T x) (hk : 1 ≤ k ∧ k ≤ 6)
    (who c hh v m t : Int) (hw : who ≠ 0) (hc : c ∈ fitL k) (hcm : c = 11 → m ≤ 3)
    (hn : ∀ w, (nilAhead 306 T x "timekeeper/objects.try").run Tryz.prog w = .ok (some false) w)
    (hm : ∀ w, (method 306 T x "timekeeper/objects.try").run Tryz.prog w = .ok (F, y) w)
    (hcf : ∀ args w, (callFunc F args).run Tryz.prog w = .ok (.enter F args) w)
    (hF : ∀ w1, w.grownBy w1 none → Calls Tryz.prog F #[y, .int .u32 who, askV c hh v m t] w1 fun e w' => ∃ u r, e = .returned (.tuple #[u, r]) ∧ R w1 u r w') :
    Calls Tryz.prog 7 #[.pointer (some ⟨p, 0, none⟩), .int .u32 who, askV c hh v m t] w fun e w' => ∃ w1 u r, w.grownBy w1 none ∧ e = .returned (.tuple #[u, r]) ∧ R w1 u r w' := by
  have hw0 : (who == 0) = false := by simpa using hw
  have hin : decide (c ∈ fitL k) = true := by simpa using hc
  have hF' := Lib.hid hF
  unfold askV at hF' ⊢
  have hK := Lib.hid h
  clear hF hw hc
  replace hcm := Lib.hid hcm
  go_enter Tryz.func7, Tryz.ntmps7
  go_wp2_with (go_at_call 19; refine (Hd.there (h.keep (World.grownBy_alloc _ _ _))).mono ?_; rintro e wr ⟨rfl, rfl⟩)
  have hg0 := Lib.hid (World.grownBy_alloc w (.cells #[.int .u8 c, .int .u32 hh, .int .u32 v, .int .u32 m, .int .i64 t] 39) none)
  have hB := Lib.hid (World.alloc_heap_new w (.cells #[.int .u8 c, .int .u32 hh, .int .u32 v, .int .u32 m, .int .i64 t] 39))
  obtain ⟨W0, hW0⟩ : ∃ W0, w.alloc (.cells #[.int .u8 c, .int .u32 hh, .int .u32 v, .int .u32 m, .int .i64 t] 39) = W0 := ⟨_, rfl⟩
  rw [hW0] at hg0 hB ⊢
  clear hW0
  obtain ⟨Z, hZ⟩ : ∃ Z, w.heap.size = Z := ⟨_, rfl⟩
  rw [hZ] at hB ⊢
  have k0 := (h.keep hg0.out).kind
  clear h
  have b0 := cell_of (i := 0) (v := .int .u8 c) hB.out rfl
  have b1 := cell_of (i := 1) (v := .int .u32 hh) hB.out rfl
  have b2 := cell_of (i := 2) (v := .int .u32 v) hB.out rfl
  have b3 := cell_of (i := 3) (v := .int .u32 m) hB.out rfl
  have b4 := cell_of (i := 4) (v := .int .i64 t) hB.out rfl
  by_cases h11 : c = 11
  · have hm3 : m ≤ 3 := hcm.out h11
    have hmm : decide (3 < m) = false := by simp; omega
    have he : (c == 11) = true := by simp [h11]
    replace h11 := Lib.hid h11
    first | go_region_with (go_at_call 20; refine (fits_ok c hh v m t k hk _).mono ?_; rintro e wr ⟨rfl, hg1⟩; replace hg1 := Lib.hid hg1; have hb1 := (hg1.out.block Z ((Array.getElem?_eq_some_iff.1 hB.out).1) (by simp)).trans hB.out; have b0' := cell_of (i := 0) (v := .int .u8 c) hb1 rfl; have b1' := cell_of (i := 1) (v := .int .u32 hh) hb1 rfl; have b2' := cell_of (i := 2) (v := .int .u32 v) hb1 rfl; have b3' := cell_of (i := 3) (v := .int .u32 m) hb1 rfl; have b4' := cell_of (i := 4) (v := .int .i64 t) hb1 rfl; replace hb1 := Lib.hid hb1; have hG := Lib.hid (grown_trans hg0.out (grown_undrew hg1.out)); have it' := (hK.out.keep hG.out).it) | fail
    all_goals go_wp2_with fail
    all_goals first | go_region_with (refine (hF'.out _ (grown_drewN hG.out 1)).mono ?_; rintro e w2 ⟨u, r, rfl, hR⟩; replace hR := Lib.hid hR) | fail
    all_goals go_wp2_with fail
    all_goals go_ret2
    all_goals exact ⟨_, u, r, grown_drewN hG.out 1, rfl, hR.out⟩
  · have he : (c == 11) = false := by simpa using h11
    replace h11 := Lib.hid h11
    first | go_region_with (go_at_call 20; refine (fits_ok c hh v m t k hk _).mono ?_; rintro e wr ⟨rfl, hg1⟩; replace hg1 := Lib.hid hg1; have hb1 := (hg1.out.block Z ((Array.getElem?_eq_some_iff.1 hB.out).1) (by simp)).trans hB.out; have b0' := cell_of (i := 0) (v := .int .u8 c) hb1 rfl; have b1' := cell_of (i := 1) (v := .int .u32 hh) hb1 rfl; have b2' := cell_of (i := 2) (v := .int .u32 v) hb1 rfl; have b3' := cell_of (i := 3) (v := .int .u32 m) hb1 rfl; have b4' := cell_of (i := 4) (v := .int .i64 t) hb1 rfl; replace hb1 := Lib.hid hb1; have hG := Lib.hid (grown_trans hg0.out (grown_undrew hg1.out)); have it' := (hK.out.keep hG.out).it) | fail
    all_goals go_wp2_with fail
    all_goals first | go_region_with (refine (hF'.out _ (grown_drewN hG.out 1)).mono ?_; rintro e w2 ⟨u, r, rfl, hR⟩; replace hR := Lib.hid hR) | fail
    all_goals go_wp2_with fail
    all_goals go_ret2
    all_goals exact ⟨_, u, r, grown_drewN hG.out 1, rfl, hR.out⟩
end Go.Proofs.YtneamjaglgnmkaaGreatDoor
