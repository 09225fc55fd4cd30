/- The reference's lists are the region's. -/
import Derived.Test.YtabkkeeedlnmnaaDoorRegRef4
namespace Go.Proofs.YtabkkeeedlnmnaaDoor
open Go.RowKit Go.Shelf Tk
set_option linter.unusedVariables false
set_option linter.unusedSimpArgs false
namespace RefR
theorem gd_set' {os : List Int} {i j : Nat} (hi : i < os.length) (x : Int) : gd (os.set i x) j = if j = i then x else gd os j := by
  unfold gd
  by_cases h : j = i
  · subst h; simp [hi]
  · rw [List.getElem?_set_ne (fun e => h e.symm), if_neg h]
theorem set_put (os : List Int) (a : Nat) (x : Int) (ha : a < os.length) : os.set a x = put os a [x] := by
  refine ext_gd (by rw [List.length_set, put_len (by simp; omega)]) fun i hi => ?_
  rw [gd_set' ha, put_gd (by simp; omega)]
  by_cases e : i = a
  · subst e; rw [if_pos rfl, if_pos (by simp), Nat.sub_self]; rfl
  · rw [if_neg e, if_neg (by simp; omega)]
theorem sw_put (os : List Int) (a : Nat) (x : Int) (h0 : 0 ≤ x) (h1 : x ≤ 4294967295) (ha : a + 4 ≤ os.length) : sw os a x 4 = put os a (wordBytes x) := by
  have hl : (wordBytes x).length = 4 := rfl
  refine ext_gd (by rw [sw_len, put_len (by rw [hl]; exact ha)]) fun i hi => ?_
  rw [put_gd (by rw [hl]; exact ha), hl]
  have e : sw os a x 4 = ((((os.set (a + 3) (x % 256)).set (a + 2) (x / 256 % 256)).set (a + 1) (x / 256 / 256 % 256)).set a (x / 256 / 256 / 256 % 256)) := rfl
  rw [e, gd_set' (by simp; omega), gd_set' (by simp; omega), gd_set' (by simp; omega), gd_set' (by omega)]
  by_cases e0 : i = a
  · subst e0; rw [if_pos rfl, if_pos (by omega), Nat.sub_self]; show _ = x / 16777216; omega
  · by_cases e1 : i = a + 1
    · subst e1; rw [if_neg e0, if_pos rfl, if_pos (by omega), show a + 1 - a = 1 by omega]; show _ = x / 65536 % 256; omega
    · by_cases e2 : i = a + 2
      · subst e2; rw [if_neg e0, if_neg e1, if_pos rfl, if_pos (by omega), show a + 2 - a = 2 by omega]; rfl
      · by_cases e3 : i = a + 3
        · subst e3; rw [if_neg e0, if_neg e1, if_neg e2, if_pos rfl, if_pos (by omega), show a + 3 - a = 3 by omega]; rfl
        · rw [if_neg e0, if_neg e1, if_neg e2, if_neg e3, if_neg (by omega)]
end RefR
end Go.Proofs.YtabkkeeedlnmnaaDoor
