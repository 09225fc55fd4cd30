/- Masks: package masks itself. -/
import Derived.Test.YtneamjaglgnmkaaGreatDoorObM2
import Derived.Laws.EntriesVeiled
namespace Go.Proofs.YtneamjaglgnmkaaGreatDoor
open Go.RowKit Go.Shelf Tk Tk.Msk
set_option linter.unusedVariables false
set_option linter.unusedSimpArgs false
theorem mmet_ok (f v : Nat) (hf : f < 4294967296) (hv : v < 4294967296) (w : World) :
    Calls Tryz.prog 129 #[.int .u32 f, .int .u32 v] w fun e w' => e = .returned (.int .u32 (metN f v)) ∧ w = w' := by
  have hb := and_u32 hf hv
  go_enter Tryz.func129, Tryz.ntmps129
  go_wp2_with fail
  go_ret
  exact ⟨rfl, rfl⟩
theorem holds1_ok (X Y f v : Nat) (hf : f < 4294967296) (hv : v < 4294967296) (w : World) (h1 : w.cell? ⟨X, 0, none⟩ = some (.int .u32 f)) (h2 : w.cell? ⟨Y, 0, none⟩ = some (.int .u32 v)) :
    Calls Tryz.prog 131 #[.pointer (some ⟨X, 0, none⟩), .pointer (some ⟨Y, 0, none⟩)] w fun e w' => e = .returned (.bool (holdsN f v false)) ∧ w = w' := by
  have hm := Lib.hid (mmet_ok f v hf hv w)
  go_enter Tryz.func131, Tryz.ntmps131
  go_wp2_with (go_at_call 129; refine hm.out.mono ?_; rintro e w7 ⟨rfl, rfl⟩)
  go_ret
  exact ⟨by
    show Ending.returned (.bool (((metN f v : Nat) : Int) != 0)) = _
    unfold holdsN metN
    congr 2
    by_cases e : f &&& v = 0 <;> simp [e], rfl⟩
theorem holds2_ok (X Y f v : Nat) (hf : f < 4294967296) (hv : v < 4294967296) (w : World) (h1 : w.cell? ⟨X, 0, none⟩ = some (.int .u32 f)) (h2 : w.cell? ⟨Y, 0, none⟩ = some (.int .u32 v)) :
    Calls Tryz.prog 132 #[.pointer (some ⟨Y, 0, none⟩), .pointer (some ⟨X, 0, none⟩)] w fun e w' => e = .returned (.bool (holdsN f v true)) ∧ w = w' := by
  have hb := andNot_u32 hv hf
  go_enter Tryz.func132, Tryz.ntmps132
  go_wp2_with fail
  go_ret
  exact ⟨by
    show Ending.returned (.bool (((v &&& (4294967295 - f) : Nat) : Int) == 0)) = _
    unfold holdsN
    congr 2
    by_cases e : v &&& (4294967295 - f) = 0 <;> simp [e], rfl⟩
theorem cellA (w : World) (a : Value) (T : TypeId) (B C : Obj) : (((w.alloc (.cells #[a] T)).alloc B).alloc C).cell? ⟨w.heap.size, 0, none⟩ = some a := by
  have h0 := World.alloc_heap_new w (.cells #[a] T)
  have h1 := (World.grownBy_alloc (w.alloc (.cells #[a] T)) B none).block w.heap.size (by simp) (by simp)
  have h2 := (World.grownBy_alloc ((w.alloc (.cells #[a] T)).alloc B) C none).block w.heap.size (by simp; omega) (by simp)
  unfold World.cell?; simp only [h2.trans (h1.trans h0)]; rfl
theorem cellB (w : World) (a : Value) (T : TypeId) (A C : Obj) : (((w.alloc A).alloc (.cells #[a] T)).alloc C).cell? ⟨w.heap.size + 1, 0, none⟩ = some a := by
  have h0 := World.alloc_heap_new (w.alloc A) (.cells #[a] T)
  rw [World.size_alloc] at h0
  have h2 := (World.grownBy_alloc ((w.alloc A).alloc (.cells #[a] T)) C none).block (w.heap.size + 1) (by simp) (by simp)
  unfold World.cell?; simp only [h2.trans h0]; rfl
theorem mholds_ok (f v : Nat) (all : Bool) (hf : f < 4294967296) (hv : v < 4294967296) (w : World) :
    Calls Tryz.prog 128 #[.int .u32 f, .int .u32 v, .bool all] w fun e w' => e = .returned (.bool (holdsN f v all)) ∧ w.grownBy w' none := by
  have hG := Lib.hid (fun A B C => grown_alloc (grown_alloc (World.grownBy_alloc w A none) B) C)
  cases all
  · go_enter Tryz.func128, Tryz.ntmps128
    go_wp2_with (go_at_call 131; refine (holds1_ok _ _ f v hf hv _ (cellA _ _ _ _ _) (cellB _ _ _ _ _)).mono ?_; rintro e w7 ⟨rfl, rfl⟩)
    go_ret
    exact ⟨rfl, hG.out _ _ _⟩
  · go_enter Tryz.func128, Tryz.ntmps128
    go_wp2_with (go_at_call 132; refine (holds2_ok _ _ f v hf hv _ (cellA _ _ _ _ _) (cellB _ _ _ _ _)).mono ?_; rintro e w7 ⟨rfl, rfl⟩)
    go_ret
    exact ⟨rfl, hG.out _ _ _⟩
theorem mafter_ok (f v : Nat) (all gone : Bool) (hf : f < 4294967296) (hv : v < 4294967296) (w : World) :
    Calls Tryz.prog 130 #[.int .u32 f, .int .u32 v, .bool all, .bool gone] w fun e w' => e = .returned (.int .u32 (afterN f v all gone)) ∧ w.grownBy w' none := by
  have hh := mholds_ok f v all hf hv w
  have hb := andNot_u32 hf hv
  have ha : afterN f v all gone = if gone && holdsN f v all then goneN f v else f := rfl
  have hge : goneN f v = f &&& (4294967295 - v) := rfl
  rw [← hge] at hb
  rw [ha]
  clear ha hge
  generalize holdsN f v all = hb2 at *
  replace hh := Lib.hid hh
  generalize goneN f v = M at *
  cases gone
  · go_enter Tryz.func130, Tryz.ntmps130
    go_wp2_with fail
    go_ret
    exact ⟨rfl, grown_refl _ _⟩
  · cases hb2
    all_goals
      go_enter Tryz.func130, Tryz.ntmps130
      go_wp2_with (go_at_call 128; refine hh.out.mono ?_; rintro e w7 ⟨rfl, hg⟩; replace hg := Lib.hid hg)
      go_ret
      exact ⟨rfl, hg.out⟩
end Go.Proofs.YtneamjaglgnmkaaGreatDoor
