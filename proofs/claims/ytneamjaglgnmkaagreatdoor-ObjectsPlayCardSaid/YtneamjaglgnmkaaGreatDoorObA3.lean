/- Package objects: how things are made, or not. -/
import Derived.Test.YtneamjaglgnmkaaGreatDoorObA2
namespace Go.Proofs.YtneamjaglgnmkaaGreatDoor
open Go.RowKit Go.Shelf Tk Tk.Msk
set_option linter.unusedVariables false
set_option linter.unusedSimpArgs false
/-- Of what a thing may be made. -/
def MayP (k a b : Int) : Prop := (k = 1 ∧ a ≤ b ∧ 1 ≤ b ∧ b ≤ 1073741824) ∨ (k = 2 ∧ a = 0 ∧ b = 0) ∨ (k = 3 ∧ 1 ≤ a ∧ a ≤ 64 ∧ b = 0) ∨ (k = 4 ∧ b = 0) ∨ (k = 5 ∧ 1 ≤ a ∧ a ≤ 64 ∧ 1 ≤ b ∧ b ≤ 256) ∨ (k = 6 ∧ a ≠ 0)
instance (k a b : Int) : Decidable (MayP k a b) := by unfold MayP; infer_instance
theorem may_no {k a b : Int} (h : ¬ MayP k a b) :
    (k = 1 ∧ (b < a ∨ a ≤ b ∧ b < 1 ∨ a ≤ b ∧ 1 ≤ b ∧ 1073741824 < b)) ∨ (k = 2 ∧ ((a == 0) = false ∨ (a == 0) = true ∧ (b == 0) = false)) ∨ (k = 3 ∧ (a < 1 ∨ 1 ≤ a ∧ 64 < a ∨ 1 ≤ a ∧ a ≤ 64 ∧ (b == 0) = false)) ∨ (k = 4 ∧ (b == 0) = false) ∨
      (k = 5 ∧ (a < 1 ∨ 1 ≤ a ∧ 64 < a ∨ 1 ≤ a ∧ a ≤ 64 ∧ b < 1 ∨ 1 ≤ a ∧ a ≤ 64 ∧ 1 ≤ b ∧ 256 < b)) ∨ (k = 6 ∧ (a != 0) = false) ∨ ((k == 1) = false ∧ (k == 2) = false ∧ (k == 3) = false ∧ (k == 4) = false ∧ (k == 5) = false ∧ (k == 6) = false) := by
  unfold MayP at h
  simp only [beq_eq_false_iff_ne, beq_iff_eq, bne_eq_false_iff_eq, ne_eq]
  omega
set_option maxRecDepth 100000 in
set_option maxHeartbeats 4000000 in
theorem new_no (k a b : Int) (h : ¬ MayP k a b) (w : World) :
    Calls Tryz.prog 5 #[.agg #[.int .u8 k, .int .u32 a, .int .u32 b]] w fun e w' => e = .returned (.tuple #[.pointer none, .int .i64 1]) ∧ w.grownBy w' none := by
  rcases may_no h with ⟨rfl, h | ⟨h1, h2⟩ | ⟨h1, h2, h3⟩⟩ | ⟨rfl, h | ⟨h1, h2⟩⟩ | ⟨rfl, h | ⟨h1, h2⟩ | ⟨h1, h2, h3⟩⟩ | ⟨rfl, h⟩ | ⟨rfl, h | ⟨h1, h2⟩ | ⟨h1, h2, h3⟩ | ⟨h1, h2, h3, h4⟩⟩ | ⟨rfl, h⟩ | ⟨h1, h2, h3, h4, h5, h6⟩
  all_goals
    go_enter Tryz.func5, Tryz.ntmps5
    go_wp2_with fail
    go_ret2
    exact ⟨rfl, grown_alloc (World.grownBy_alloc _ _ _) _⟩
set_option maxRecDepth 100000 in
set_option maxHeartbeats 2000000 in
theorem new_flags (n : Nat) (hn : n < 4294967296) (w : World) :
    Calls Tryz.prog 5 #[.agg #[.int .u8 4, .int .u32 n, .int .u32 0]] w fun e w' => ∃ p q, e = .returned (.tuple #[.pointer (some ⟨p, 0, none⟩), .int .i64 0]) ∧ Flg w' p q n n ∧ w.heap.size ≤ p ∧ w.heap.size ≤ q ∧ w.grownBy w' none := by
  replace hn := Lib.hid hn
  go_enter Tryz.func5, Tryz.ntmps5
  go_wp2_with fail
  go_ret2
  exact ⟨w.heap.size + 1, w.heap.size + 1 + 1, rfl, ⟨heap3_1 _ _ _ _, heap3_2 _ _ _ _, by omega, hn.out⟩, by omega, by omega, grown_alloc (grown_alloc (World.grownBy_alloc _ _ _) _) _⟩
set_option maxRecDepth 100000 in
set_option maxHeartbeats 2000000 in
theorem new_alarm (a b : Int) (ha : a ≠ 0) (w : World) :
    Calls Tryz.prog 5 #[.agg #[.int .u8 6, .int .u32 a, .int .u32 b]] w fun e w' => ∃ p, e = .returned (.tuple #[.pointer (some ⟨p, 0, none⟩), .int .i64 0]) ∧ Alm w' p a b ∧ w.heap.size ≤ p ∧ w.grownBy w' none := by
  have h : (a != 0) = true := by simpa using ha
  clear ha
  go_enter Tryz.func5, Tryz.ntmps5
  go_wp2_with fail
  go_ret2
  exact ⟨w.heap.size + 1, rfl, heap2_1 _ _ _, by omega, grown_alloc (World.grownBy_alloc _ _ _) _⟩
set_option maxRecDepth 100000 in
set_option maxHeartbeats 4000000 in
theorem PolB.qfree_arg {w : World} {q B : Nat} {os : List Int} (h : PolB w q B) (hq : PolN.Pl w B os) (who : Int) (v : Nat) (hv : os.length ≤ v) (hv2 : v < 4294967296) (hh x t : Int) :
    Calls Tryz.prog 134 #[.pointer (some ⟨q, 0, none⟩), .int .u32 who, askV 15 hh v x t] w fun e w' => e = .returned (.tuple #[.int .u32 0, .int .i64 1]) ∧ w.grownBy w' none := by
  have c0 := cell_of (i := 0) (v := .pointer (some ⟨B, 0, none⟩)) h rfl
  have hlt := h.lt
  have hg0 := Lib.hid (grown_drewN (World.grownBy_alloc w (.cells #[.int .u8 15, .int .u32 hh, .int .u32 v, .int .u32 x, .int .i64 t] 39) none))
  by_cases h64 : 64 ≤ v
  · clear h hq
    have hc : (64 : Int) ≤ (v : Int) := by omega
    unfold askV
    go_enter Tryz.func134, Tryz.ntmps134
    go_wp2_with fail
    go_ret2
    exact ⟨rfl, World.grownBy_alloc _ _ _⟩
  · have ha := Lib.hid (fun W (hg : w.grownBy W none) => PolN.free_arg who v (.inr (.inr (by omega))) W (hq.keep hg))
    have hj64 : v < 64 := by omega
    have hwj : IntKind.i64.wrap (v : Int) = v := by rw [IntKind.wrap_i64]; omega
    clear h hq hv hv2 h64
    unfold askV
    go_enter Tryz.func134, Tryz.ntmps134
    go_wp2_with fail
    first | go_region_with (go_at_call 137; refine (ha.out _ (grown_drewN (World.grownBy_alloc _ _ none) 1)).mono ?_; rintro e wr ⟨rfl, rfl⟩) | fail
    all_goals go_wp2_with fail
    all_goals go_ret2
    all_goals exact ⟨rfl, hg0.out 1⟩
theorem Plt.free_arg {w : World} {p q B : Nat} {z : Int} {os : List Int} (h : Plt w p q B z os) (who : Int) (hw : who ≠ 0) (v : Nat) (hv : os.length ≤ v) (hv2 : v < 4294967296) (hh x t : Int) :
    Calls Tryz.prog 7 #[.pointer (some ⟨p, 0, none⟩), .int .u32 who, askV 15 hh v x t] w fun e w' => e = .returned (.tuple #[.int .u32 0, .int .i64 1]) ∧ w.grownBy w' none := by
  refine (h.hd.try_of (R := fun w1 u r w' => u = .int .u32 0 ∧ r = .int .i64 1 ∧ w1.grownBy w' none) (by decide) who 15 hh v x t hw (by decide) (fun e => absurd e (by decide)) (nilAhead_pool q) (method_pool q) enter_pool
    (fun w1 hg => ((h.pb.kept hg (by simp)).qfree_arg (h.pl.keep hg) who v hv hv2 hh x t).mono ?_)).mono ?_
  · rintro e w' ⟨rfl, h2⟩; exact ⟨_, _, rfl, rfl, rfl, h2⟩
  · rintro e w' ⟨w1, u, r, hg, rfl, rfl, rfl, h2⟩; exact ⟨rfl, grown_trans hg h2⟩
end Go.Proofs.YtneamjaglgnmkaaGreatDoor
