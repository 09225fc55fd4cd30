/- Place, Drop. -/
import Derived.Test.YtabkkeeedlnmnaaDoorHan2
namespace Go.Proofs.YtabkkeeedlnmnaaDoor
open Go.RowKit Go.Shelf Tk
set_option linter.unusedVariables false
set_option linter.unusedSimpArgs false

/-- What Place answers. -/
def Tab.place (t : Tab) (h : Nat) : Nat × Nat :=
  if h / 256 = 0 ∨ t.age (h % 256) < h / 256 then (0, 5) else if h / 256 < t.age (h % 256) ∨ t.tk (h % 256) = false then (0, 6) else (h % 256, 0)
set_option maxRecDepth 100000 in
set_option maxHeartbeats 4000000 in
theorem place_any (t : Tab) (ht : t.ok) (b h : Nat) (hh : h < 4294967296) (w : World) (hA : Arr w b 513 t.v) :
    Calls Tryd.prog 21 #[.pointer (some ⟨b, 0, none⟩), .int .u32 h] w fun e w' => e = .returned (.tuple #[.int .i64 (t.place h).1, .int .i64 (t.place h).2]) ∧ w.grownBy w' none := by
  have hm0 : ((t.many : Int) == 0) = false := by have := ht.2.1; simp; omega
  have hcm := hA.cell (i := 512) (by omega)
  rw [t.v_many] at hcm
  have hlt : h % 256 < 256 := Nat.mod_lt _ (by decide)
  have hc := hA.cell (i := h % 256 * 2) (by omega)
  have hc' := hA.cell (i := h % 256 * 2 + 1) (by omega)
  rw [t.v_age hlt] at hc
  rw [t.v_tk hlt] at hc'
  have ha := ht.1 (h % 256)
  have hp : Hid (t.place h = if h / 256 = 0 ∨ t.age (h % 256) < h / 256 then (0, 5) else if h / 256 < t.age (h % 256) ∨ t.tk (h % 256) = false then (0, 6) else (h % 256, 0)) := rfl
  have hg2 : h / 256 < 16777216 := by omega
  generalize hx : h / 256 = x at *
  generalize hy : h % 256 = y at *
  have hx' : ((h : Int) / 256) = (x : Int) := by omega
  have hy' : ((h : Int) % 256) = (y : Int) := by omega
  clear hx hy
  generalize t.age y = a at *
  generalize t.tk y = q at *
  by_cases h1 : x = 0
  · have hP : Hid (t.place h = (0, 5)) := by show _ = _; rw [hp.out, if_pos (.inl h1)]
    clear hp
    go_enter Tryd.func21, Tryd.ntmps21
    go_wp2_with fail
    go_ret2
    exact ⟨by rw [hP.out]; rfl, World.grownBy_alloc _ _ _⟩
  · have h1' : ((x : Int) == 0) = false := by simp [h1]
    by_cases h2 : a < x
    · have hP : Hid (t.place h = (0, 5)) := by show _ = _; rw [hp.out, if_pos (.inr h2)]
      clear hp
      go_enter Tryd.func21, Tryd.ntmps21
      go_wp2_with fail
      go_ret2
      exact ⟨by rw [hP.out]; rfl, World.grownBy_alloc _ _ _⟩
    · by_cases h3 : x < a
      · have hP : Hid (t.place h = (0, 6)) := by show _ = _; rw [hp.out, if_neg (by omega), if_pos (.inl h3)]
        clear hp
        go_enter Tryd.func21, Tryd.ntmps21
        go_wp2_with fail
        go_ret2
        exact ⟨by rw [hP.out]; rfl, World.grownBy_alloc _ _ _⟩
      · cases q with
        | false =>
          have hP : Hid (t.place h = (0, 6)) := by show _ = _; rw [hp.out, if_neg (by omega), if_pos (.inr rfl)]
          clear hp
          go_enter Tryd.func21, Tryd.ntmps21
          go_wp2_with fail
          go_ret2
          exact ⟨by rw [hP.out]; rfl, World.grownBy_alloc _ _ _⟩
        | true =>
          have hP : Hid (t.place h = (y, 0)) := by show _ = _; rw [hp.out, if_neg (by omega), if_neg (by simp; omega)]
          clear hp
          go_enter Tryd.func21, Tryd.ntmps21
          go_wp2_with fail
          go_ret2
          exact ⟨by rw [hP.out]; rfl, World.grownBy_alloc _ _ _⟩
theorem place_nil (v : Value) (w : World) : Calls Tryd.prog 21 #[.pointer none, v] w fun e w' => e = .returned (.tuple #[.int .i64 0, .int .i64 2]) ∧ w.grownBy w' none := by
  go_enter Tryd.func21, Tryd.ntmps21
  go_wp2_with fail
  go_ret2
  exact ⟨rfl, grown_refl _ _⟩
theorem place_zero (v : Value) (b : Nat) (w : World) (hA : Arr w b 513 (tab0 0).v) : Calls Tryd.prog 21 #[.pointer (some ⟨b, 0, none⟩), v] w fun e w' => e = .returned (.tuple #[.int .i64 0, .int .i64 2]) ∧ w.grownBy w' none := by
  have hcm := hA.cell (i := 512) (by omega)
  rw [Tab.v_many] at hcm
  have hz : (((tab0 0).many : Int) == 0) = true := rfl
  go_enter Tryd.func21, Tryd.ntmps21
  go_wp2_with fail
  go_ret2
  exact ⟨rfl, grown_refl _ _⟩

/-- What Drop leaves. -/
def Tab.drop (t : Tab) (h : Nat) : Tab := if (t.place h).2 = 0 then t.let (h % 256) else t
theorem let_v (t : Tab) (k : Nat) (hk : k < 256) (i : Nat) (hi : i < 513) :
    (if i = k * 2 + 1 then Value.bool false else t.v i) = (t.let k).v i := by
  by_cases e1 : i = k * 2 + 1
  · subst e1; rw [if_pos rfl, (t.let k).v_tk hk]; simp [Tab.let]
  · rw [if_neg e1]
    unfold Tab.v
    by_cases e3 : i = 512
    · simp [e3, Tab.let]
    · rw [if_neg e3, if_neg e3]
      by_cases e4 : i % 2 = 0
      · simp [e4, Tab.let]
      · have : ¬ i / 2 = k := by omega
        simp [e4, Tab.let, this]
theorem place_err (t : Tab) (h : Nat) : (t.place h).2 = 0 ∧ (t.place h).1 = h % 256 ∨ (t.place h).2 = 5 ∨ (t.place h).2 = 6 := by
  unfold Tab.place
  split
  · exact .inr (.inl rfl)
  · split
    · exact .inr (.inr rfl)
    · exact .inl ⟨rfl, rfl⟩
set_option maxRecDepth 100000 in
set_option maxHeartbeats 4000000 in
theorem drop_any (t : Tab) (ht : t.ok) (b h : Nat) (hh : h < 4294967296) (w : World) (hA : Arr w b 513 t.v) :
    Calls Tryd.prog 19 #[.pointer (some ⟨b, 0, none⟩), .int .u32 h] w fun e w' => e = .returned (.int .i64 (t.place h).2) ∧ Arr w' b 513 (t.drop h).v ∧ w.grownBy w' (some b) := by
  have hpl := place_any t ht b h hh w hA
  have hlt : h % 256 < 256 := Nat.mod_lt _ (by decide)
  rcases place_err t h with ⟨h0, h1⟩ | h0
  · have hD : Hid (t.let (h % 256) = t.drop h) := by show _ = _; unfold Tab.drop; rw [if_pos h0]
    rw [h0, h1] at hpl
    have hpl' := Lib.hid hpl
    have h0' := Lib.hid h0
    clear hpl h0 h1
    generalize h % 256 = y at *
    go_enter Tryd.func19, Tryd.ntmps19
    go_wp2_with fail
    refine hpl'.out.mono ?_; rintro e w1 ⟨rfl, hg⟩
    have hA1 := hA.kept hg (by simp)
    have hc' := hA1.cell (i := y * 2 + 1) (by omega)
    rw [t.v_tk hlt] at hc'
    have hf := hA1.frozen (y * 2 + 1)
    go_wp2_with fail
    go_ret
    refine ⟨by rw [h0'.out]; rfl, ?_, grown_trans (grown_weaken _ hg) (grownBy_setCell _ _ _ _)⟩
    rw [← hD.out]
    exact (hA1.set (k := y * 2 + 1) (by omega) (.bool false)).congr (let_v t y hlt)
  · have hD : Hid (t = t.drop h) := by show _ = _; unfold Tab.drop; rw [if_neg (by omega)]
    obtain ⟨e0, he0⟩ : ∃ e0, (t.place h).2 = e0 := ⟨_, rfl⟩
    rw [he0] at hpl h0
    have he0' : ((e0 : Int) == 0) = false := by simp; omega
    have hpl' := Lib.hid hpl
    have he := Lib.hid he0
    clear hpl he0
    go_enter Tryd.func19, Tryd.ntmps19
    go_wp2_with fail
    refine hpl'.out.mono ?_; rintro e w1 ⟨rfl, hg⟩
    go_wp2_with fail
    go_ret
    exact ⟨by rw [he.out]; rfl, by rw [← hD.out]; exact hA.kept hg (by simp), grown_weaken _ hg⟩
theorem drop_nil (v : Value) (w : World) : Calls Tryd.prog 19 #[.pointer none, v] w fun e w' => e = .returned (.int .i64 2) ∧ w.grownBy w' none := by
  go_enter Tryd.func19, Tryd.ntmps19
  go_wp2_with fail
  refine (place_nil _ _).mono ?_; rintro e w1 ⟨rfl, hg⟩
  go_wp2_with fail
  go_ret
  exact ⟨rfl, hg⟩
theorem drop_zero (v : Value) (b : Nat) (w : World) (hA : Arr w b 513 (tab0 0).v) : Calls Tryd.prog 19 #[.pointer (some ⟨b, 0, none⟩), v] w fun e w' => e = .returned (.int .i64 2) ∧ w.grownBy w' none := by
  go_enter Tryd.func19, Tryd.ntmps19
  go_wp2_with fail
  refine (place_zero _ _ _ hA).mono ?_; rintro e w1 ⟨rfl, hg⟩
  go_wp2_with fail
  go_ret
  exact ⟨rfl, hg⟩
end Go.Proofs.YtabkkeeedlnmnaaDoor
