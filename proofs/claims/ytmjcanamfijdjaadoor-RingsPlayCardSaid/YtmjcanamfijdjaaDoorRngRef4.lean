/- RingsPlay: both answer alike. -/
import Derived.Test.YtmjcanamfijdjaaDoorRngRef3
namespace Go.Proofs.YtmjcanamfijdjaaDoor
open Go.RowKit Go.Shelf Tk
set_option linter.unusedVariables false
set_option linter.unusedSimpArgs false
variable {B M R m : Nat}
theorem drawn_step {w w' : World} {ms : List Int} {f : Nat} {c : Nat → Int} (h : Rg w B M m ms f c) (hd : ∃ nd, w.drewN nd = w') : (∃ f' c', Rg w' B M m ms f' c') ∧ Fr (BM B M) w w' := by
  obtain ⟨nd, rfl⟩ := hd
  exact ⟨⟨f, c, h.drewN nd⟩, fr_drewN _ _ _⟩
theorem drawn_post {w w' : World} {ms : List Int} {v : Value} (h : RefG.RQ w R m v ms) (hd : ∃ nd, w.drewN nd = w') : RefG.Post w R m v ms w' := by
  obtain ⟨nd, rfl⟩ := hd
  exact h.same (grown_drewN (grown_refl _ _) nd)
/-- What a step of the ring's and of the reference's leave. -/
def StA (B M m : Nat) (F : Nat) (args : Array Value) (E : Ending → Prop) (ms ms' : List Int) : Prop := ∀ w f c, Rg w B M m ms f c → Calls Tryd.prog F args w fun e w' => E e ∧ (∃ f' c', Rg w' B M m ms' f' c') ∧ Fr (BM B M) w w'
def StB (R m : Nat) (F : Nat) (args : Array Value) (E : Ending → Prop) (ms ms' : List Int) : Prop := ∀ w v, RefG.RQ w R m v ms → Calls Tryd.prog F args w fun e w' => E e ∧ RefG.Post w R m v ms' w'
theorem pair_put (B M R m : Nat) (hm : m ≤ 1024) (x : Int) (ms : List Int) (hl : ms.length ≤ m) : ∃ (g : Int) (ms' : List Int), ms'.length ≤ ms.length + 1 ∧ ms'.length ≤ m ∧
    StA B M m 6 #[.pointer (some ⟨B, 0, none⟩), .int .i64 x] (fun e => e = .returned (.int .i64 g)) ms ms' ∧
    StB R m 7 #[.pointer (some ⟨R, 0, none⟩), .int .i64 x] (fun e => e = .returned (.int .i64 g)) ms ms' := by
  by_cases hr : putRes ms m x = 0
  · have h3 := (putRes_is hr hl).2.2
    refine ⟨0, ms ++ [x], by simp, by simp; omega, fun w f c h => put_ok x hr h, fun w v h => RefG.put_ok x h (by omega) ?_⟩
    have := RefG.may_ok x h hl hm
    rw [hr] at this; exact this
  · refine ⟨putRes ms m x, ms, by simp, hl, fun w f c h => (put_no _ x _ hr w (may_res x h)).mono fun e w' ⟨he, hd⟩ => ⟨he, drawn_step h hd⟩, fun w v h => (RefG.put_no x _ hr (RefG.may_ok x h hl hm)).mono fun e w' ⟨he, hd⟩ => ⟨he, drawn_post h hd⟩⟩
theorem pair_push (B M R m : Nat) (hm : m ≤ 1024) (x : Int) (ms : List Int) (hl : ms.length ≤ m) : ∃ (g : Int) (ms' : List Int), ms'.length ≤ ms.length + 1 ∧ ms'.length ≤ m ∧
    StA B M m 8 #[.pointer (some ⟨B, 0, none⟩), .int .i64 x] (fun e => e = .returned (.int .i64 g)) ms ms' ∧
    StB R m 9 #[.pointer (some ⟨R, 0, none⟩), .int .i64 x] (fun e => e = .returned (.int .i64 g)) ms ms' := by
  by_cases hr : putRes ms m x = 0
  · have h3 := (putRes_is hr hl).2.2
    refine ⟨0, x :: ms, by simp, by simp; omega, fun w f c h => push_ok x hr h, fun w v h => RefG.push_ok x h (by omega) ?_⟩
    have := RefG.may_ok x h hl hm
    rw [hr] at this; exact this
  · refine ⟨putRes ms m x, ms, by simp, hl, fun w f c h => (push_no _ x _ hr w (may_res x h)).mono fun e w' ⟨he, hd⟩ => ⟨he, drawn_step h hd⟩, fun w v h => (RefG.push_no x _ hr (RefG.may_ok x h hl hm)).mono fun e w' ⟨he, hd⟩ => ⟨he, drawn_post h hd⟩⟩
theorem same_world {w w' : World} (h : w = w') : ∃ nd, w.drewN nd = w' := ⟨0, h⟩
theorem pair_take (B M R m : Nat) (ms : List Int) (hl : ms.length ≤ m) (hm : m ≤ 1024) : ∃ (y g : Int) (ms' : List Int), ms'.length ≤ ms.length ∧
    StA B M m 10 #[.pointer (some ⟨B, 0, none⟩)] (fun e => e = .returned (.tuple #[.int .i64 y, .int .i64 g])) ms ms' ∧
    StB R m 11 #[.pointer (some ⟨R, 0, none⟩)] (fun e => e = .returned (.tuple #[.int .i64 y, .int .i64 g])) ms ms' := by
  cases ms with
  | nil => exact ⟨0, 11, [], Nat.le_refl _, fun w f c h => (take_empty h).mono fun e w' ⟨he, hd⟩ => ⟨he, drawn_step h (same_world hd)⟩, fun w v h => (RefG.take_empty h).mono fun e w' ⟨he, hd⟩ => ⟨he, drawn_post h (same_world hd)⟩⟩
  | cons x ms => exact ⟨x, 0, ms, by simp, fun w f c h => take_ok h, fun w v h => RefG.take_ok x h (by simp at hl; omega)⟩
theorem pair_turn (B M R m : Nat) (ms : List Int) (hl : ms.length ≤ m) (hm : m ≤ 1024) : ∃ (g : Int) (ms' : List Int), ms'.length ≤ ms.length ∧
    StA B M m 14 #[.pointer (some ⟨B, 0, none⟩)] (fun e => e = .returned (.int .i64 g)) ms ms' ∧
    StB R m 15 #[.pointer (some ⟨R, 0, none⟩)] (fun e => e = .returned (.int .i64 g)) ms ms' := by
  cases ms with
  | nil => exact ⟨11, [], Nat.le_refl _, fun w f c h => (turn_empty h).mono fun e w' ⟨he, hd⟩ => ⟨he, drawn_step h (same_world hd)⟩, fun w v h => (RefG.turn_empty h).mono fun e w' ⟨he, hd⟩ => ⟨he, drawn_post h (same_world hd)⟩⟩
  | cons x ms => exact ⟨0, ms ++ [x], by simp, fun w f c h => turn_ok h, fun w v h => RefG.turn_ok x h (by simp at hl; omega)⟩
theorem first_one (ms : List Int) (x : Int) (h : x ∈ ms) : ∃ j, j < ms.length ∧ gd ms j = x ∧ ∀ i, i < j → gd ms i ≠ x := by
  obtain ⟨i, hi, e⟩ := mem_iff_gd.1 h
  have : ∀ n i, i < n → i < ms.length → gd ms i = x → ∃ j, j < ms.length ∧ gd ms j = x ∧ ∀ i, i < j → gd ms i ≠ x := by
    intro n
    induction n with
    | zero => intro i h; omega
    | succ n ih =>
      intro i h1 h2 h3
      by_cases hs : ∃ q, q < i ∧ gd ms q = x
      · obtain ⟨q, hq, e⟩ := hs
        exact ih q (by omega) (by omega) e
      · exact ⟨i, h2, h3, fun q hq e => hs ⟨q, hq, e⟩⟩
  exact this (i + 1) i (Nat.lt_succ_self _) hi e
theorem first_uniq {ms : List Int} {x : Int} {i j : Nat} (hi : gd ms i = x) (hi2 : ∀ q, q < i → gd ms q ≠ x) (hj : gd ms j = x) (hj2 : ∀ q, q < j → gd ms q ≠ x) : i = j := by
  rcases Nat.lt_trichotomy i j with h | h | h
  · exact absurd hi (hj2 i h)
  · exact h
  · exact absurd hj (hi2 j h)
theorem pair_remove (B M R m : Nat) (x : Int) (ms : List Int) (hl : ms.length ≤ 1000) : ∃ (g : Int) (ms' : List Int), ms'.length ≤ ms.length ∧
    StA B M m 12 #[.pointer (some ⟨B, 0, none⟩), .int .i64 x] (fun e => e = .returned (.int .i64 g)) ms ms' ∧
    StB R m 13 #[.pointer (some ⟨R, 0, none⟩), .int .i64 x] (fun e => e = .returned (.int .i64 g)) ms ms' := by
  by_cases hmem : x ∈ ms
  · obtain ⟨j, hj, hj1, hj2⟩ := first_one ms x hmem
    refine ⟨0, ms.take j ++ ms.drop (j + 1), by simp; omega, fun w f c h => (remove_ok x hmem h).mono ?_, fun w v h => (RefG.remove_ok x h hl hmem).mono ?_⟩
    · rintro e w' ⟨he, ⟨i, f', c', hi, hi1, hi2, hR⟩, hF⟩
      obtain rfl := first_uniq hi1 hi2 hj1 hj2
      rw [List.eraseIdx_eq_take_drop_succ] at hR
      exact ⟨he, ⟨f', c', hR⟩, hF⟩
    · rintro e w' ⟨he, i, hi, hi1, hi2, hP⟩
      obtain rfl := first_uniq hi1 hi2 hj1 hj2
      exact ⟨he, hP⟩
  · exact ⟨1, ms, Nat.le_refl _, fun w f c h => (remove_no x hmem h).mono fun e w' ⟨he, hd⟩ => ⟨he, drawn_step h hd⟩, fun w v h => (RefG.remove_no x h (by omega) hmem).mono fun e w' ⟨he, hd⟩ => ⟨he, drawn_post h (same_world hd)⟩⟩
end Go.Proofs.YtmjcanamfijdjaaDoor
