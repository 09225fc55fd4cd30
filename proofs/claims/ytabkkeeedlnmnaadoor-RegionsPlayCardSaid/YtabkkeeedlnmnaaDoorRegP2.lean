/- RegionsPlay: both answer alike. -/
import Derived.Test.YtabkkeeedlnmnaaDoorRegP
namespace Go.Proofs.YtabkkeeedlnmnaaDoor
open Go.RowKit Go.Shelf Tk
set_option linter.unusedVariables false
set_option linter.unusedSimpArgs false
variable {B M R m : Nat}
theorem grown_wide' {w w' : World} {r : Option Nat} (g : w.grownBy w' none) : w.grownBy w' r := ⟨g.os, g.tape, g.output, g.size, fun k hk _ => g.block k hk (by simp)⟩
theorem pair_word (xs : List Int) (hl : xs.length ≤ 4096) (hfit : ∀ i, i < xs.length → 0 ≤ gd xs i ∧ gd xs i < 256) (a : Nat) (ha : a < 4294967296) : ∃ (y g : Int), (∀ w, Reg w B M xs → Calls Tryd.prog 35 #[.pointer (some ⟨B, 0, none⟩), .int .u32 a] w fun e w' => e = .returned (.tuple #[.int .u32 y, .int .i64 g]) ∧ Reg w' B M xs ∧ w.grownBy w' (some M)) ∧
    (∀ w v, RefR.RQ w R m v xs → Calls Tryd.prog 36 #[.pointer (some ⟨R, 0, none⟩), .int .u32 a] w fun e w' => e = .returned (.tuple #[.int .u32 y, .int .i64 g]) ∧ RefR.Post w R m v xs w') := by
  by_cases h : a + 4 ≤ xs.length
  · exact ⟨wd xs a 4, 0, fun w hR => (word_ok B M xs a h hl w hR).mono fun e w' ⟨he, hw⟩ => ⟨he, hw ▸ hR, hw ▸ grown_refl _ _⟩, fun w v hQ => RefR.word_ok hQ hfit a h⟩
  · exact ⟨0, 4, fun w hR => (word_no _ _ 4 w (part_out B M xs a 4 ha (by decide) (by omega) hl w hR)).mono fun e w' ⟨he, hw⟩ => ⟨he, hw ▸ hR, hw ▸ grown_refl _ _⟩, fun w v hQ => RefR.word_no hQ a (by omega) ha⟩
theorem pair_byte (xs : List Int) (hl : xs.length ≤ 4096) (hfit : ∀ i, i < xs.length → 0 ≤ gd xs i ∧ gd xs i < 256) (a : Nat) (ha : a < 4294967296) : ∃ (y g : Int), (0 ≤ y ∧ y < 256) ∧ (∀ w, Reg w B M xs → Calls Tryd.prog 37 #[.pointer (some ⟨B, 0, none⟩), .int .u32 a] w fun e w' => e = .returned (.tuple #[.int .u8 y, .int .i64 g]) ∧ Reg w' B M xs ∧ w.grownBy w' (some M)) ∧
    (∀ w v, RefR.RQ w R m v xs → Calls Tryd.prog 38 #[.pointer (some ⟨R, 0, none⟩), .int .u32 a] w fun e w' => e = .returned (.tuple #[.int .u8 y, .int .i64 g]) ∧ RefR.Post w R m v xs w') := by
  by_cases h : a < xs.length
  · exact ⟨gd xs a, 0, hfit a h, fun w hR => (byte_ok B M xs a h hl w hR).mono fun e w' ⟨he, hw⟩ => ⟨he, hw ▸ hR, hw ▸ grown_refl _ _⟩, fun w v hQ => RefR.byte_ok hQ a h⟩
  · exact ⟨0, 4, by decide, fun w hR => (byte_no _ _ 4 (by decide) w (part_out B M xs a 1 ha (by decide) (by omega) hl w hR)).mono fun e w' ⟨he, hw⟩ => ⟨he, hw ▸ hR, hw ▸ grown_refl _ _⟩, fun w v hQ => RefR.byte_no hQ a (by omega) ha⟩
theorem pair_setWord (xs : List Int) (hl : xs.length ≤ 4096) (a : Nat) (ha : a < 4294967296) (x : Int) (hx : 0 ≤ x ∧ x < 4294967296) : ∃ (g : Int) (ys : List Int), (∀ w, Reg w B M xs → Calls Tryd.prog 31 #[.pointer (some ⟨B, 0, none⟩), .int .u32 a, .int .u32 x] w fun e w' => e = .returned (.int .i64 g) ∧ Reg w' B M ys ∧ w.grownBy w' (some M)) ∧
    (∀ w v, RefR.RQ w R m v xs → Calls Tryd.prog 32 #[.pointer (some ⟨R, 0, none⟩), .int .u32 a, .int .u32 x] w fun e w' => e = .returned (.int .i64 g) ∧ RefR.Post w R m v ys w') := by
  by_cases h : a + 4 ≤ xs.length
  · exact ⟨0, put xs a (wordBytes x), fun w hR => setWord_ok B M xs a x hx h hl w hR, fun w v hQ => by
      have := RefR.setWord_ok hQ a h x hx.1 (by omega)
      rw [RefR.sw_put xs a x hx.1 (by omega) h] at this
      exact this⟩
  · exact ⟨4, xs, fun w hR => (setWord_no _ _ x 4 w (part_out B M xs a 4 ha (by decide) (by omega) hl w hR)).mono fun e w' ⟨he, hg⟩ => ⟨he, hR.keep hg, grown_wide' hg⟩, fun w v hQ => RefR.setWord_no hQ a x (by omega) ha⟩
theorem pair_setByte (xs : List Int) (hl : xs.length ≤ 4096) (a : Nat) (ha : a < 4294967296) (x : Int) (hx : 0 ≤ x ∧ x < 256) : ∃ (g : Int) (ys : List Int), (∀ w, Reg w B M xs → Calls Tryd.prog 33 #[.pointer (some ⟨B, 0, none⟩), .int .u32 a, .int .u8 x] w fun e w' => e = .returned (.int .i64 g) ∧ Reg w' B M ys ∧ w.grownBy w' (some M)) ∧
    (∀ w v, RefR.RQ w R m v xs → Calls Tryd.prog 34 #[.pointer (some ⟨R, 0, none⟩), .int .u32 a, .int .u8 x] w fun e w' => e = .returned (.int .i64 g) ∧ RefR.Post w R m v ys w') := by
  by_cases h : a < xs.length
  · exact ⟨0, put xs a [x], fun w hR => setByte_ok B M xs a x hx h hl w hR, fun w v hQ => by
      have := RefR.setByte_ok hQ a x h
      rw [RefR.set_put xs a x h] at this
      exact this⟩
  · exact ⟨4, xs, fun w hR => (setByte_no _ _ x 4 w (part_out B M xs a 1 ha (by decide) (by omega) hl w hR)).mono fun e w' ⟨he, hg⟩ => ⟨he, hR.keep hg, grown_wide' hg⟩, fun w v hQ => RefR.setByte_no hQ a x (by omega) ha⟩
end Go.Proofs.YtabkkeeedlnmnaaDoor
