/- Package pools: each block of somebody's. -/
import Derived.Test.YtneamjaglgnmkaaGreatDoorPolN2
namespace Go.Proofs.YtneamjaglgnmkaaGreatDoor.PolN
open Go.RowKit Go.Shelf Tk
set_option linter.unusedVariables false
set_option linter.unusedSimpArgs false

/-- Of the first k, how many are v's. -/
def cnt (v : Int) (os : List Int) (k : Nat) : Nat := (os.take k).count v
theorem take_snoc {xs : List Int} {k : Nat} (h : k < xs.length) : xs.take k ++ [gd xs k] = xs.take (k + 1) := by
  rw [gd_lt h, List.take_append_getElem h]
theorem cnt_zero (v : Int) (os : List Int) : cnt v os 0 = 0 := rfl
theorem cnt_succ_eq {v : Int} {os : List Int} {k : Nat} (h : k < os.length) (e : gd os k = v) : cnt v os (k + 1) = cnt v os k + 1 := by
  unfold cnt; rw [← take_snoc h, List.count_append, e]; simp
theorem cnt_succ_ne {v : Int} {os : List Int} {k : Nat} (h : k < os.length) (e : gd os k ≠ v) : cnt v os (k + 1) = cnt v os k := by
  unfold cnt; rw [← take_snoc h, List.count_append, List.count_singleton]; simp [e]
theorem cnt_all (v : Int) (os : List Int) : cnt v os os.length = os.count v := by unfold cnt; rw [List.take_length]
theorem cnt_le (v : Int) (os : List Int) (k : Nat) : cnt v os k ≤ k := by
  unfold cnt; exact Nat.le_trans List.count_le_length (by rw [List.length_take]; omega)
/-- The blocks of v's are nobody's now, as far as k. -/
def clr (v : Int) (os : List Int) (k : Nat) : List Int := (os.take k).map (fun x => if x = v then 0 else x) ++ os.drop k
theorem clr_zero (v : Int) (os : List Int) : clr v os 0 = os := by simp [clr]
theorem clr_len (v : Int) (os : List Int) (k : Nat) : (clr v os k).length = os.length := by simp [clr]; omega
theorem clr_all (v : Int) (os : List Int) : clr v os os.length = os.map (fun x => if x = v then 0 else x) := by simp [clr]
theorem gd_clr {v : Int} {os : List Int} {k i : Nat} (hi : i < os.length) : gd (clr v os k) i = if i < k ∧ gd os i = v then 0 else gd os i := by
  unfold clr gd
  by_cases h : i < k
  · rw [List.getElem?_append_left (by simp; omega), List.getElem?_map, List.getElem?_take_of_lt h, List.getElem?_eq_getElem hi]
    simp [h]
  · rw [List.getElem?_append_right (by simp; omega)]
    simp only [List.length_map, List.length_take, List.getElem?_drop, h, false_and, if_false]
    congr 2; omega
theorem clr_succ_ne {v : Int} {os : List Int} {k : Nat} (h : k < os.length) (e : gd os k ≠ v) : clr v os (k + 1) = clr v os k := by
  apply ext_gd (by rw [clr_len, clr_len])
  intro i hi
  rw [clr_len] at hi
  rw [gd_clr hi, gd_clr hi]
  by_cases hk : i = k
  · subst hk; rw [if_neg (fun h => e h.2), if_neg (fun h => e h.2)]
  · have : i < k + 1 ↔ i < k := by omega
    simp only [this]
theorem clr_succ_eq {v : Int} {os : List Int} {k : Nat} (h : k < os.length) (e : gd os k = v) : clr v os (k + 1) = (clr v os k).set k 0 := by
  apply ext_gd (by rw [List.length_set, clr_len, clr_len])
  intro i hi
  rw [clr_len] at hi
  rw [gd_set (by rw [clr_len]; exact h), gd_clr hi]
  by_cases hk : i = k
  · subst hk; rw [if_pos rfl, if_pos ⟨by omega, e⟩]
  · have : i < k + 1 ↔ i < k := by omega
    rw [if_neg hk, gd_clr hi]
    simp only [this]
theorem gd_clr_at {v : Int} {os : List Int} {k : Nat} (hk : k < os.length) : gd (clr v os k) k = gd os k := by
  rw [gd_clr hk, if_neg (by omega)]
/-- Nothing is done. -/
theorem left1_any (k : Int) (w : World) : Calls Tryz.prog 62 #[.int .i64 k] w fun e w' => e = .returned (.tuple #[]) ∧ w = w' := by
  go_enter Tryz.func62, Tryz.ntmps62
  go_wp2_with fail
  refine bodyPost_end (results_none rfl _ _ _) rfl ?_
  exact ⟨rfl, rfl⟩
set_option maxRecDepth 100000 in
set_option maxHeartbeats 2000000 in
theorem each_left {B : Nat} {os : List Int} (v : Int) (w : World) (h : Pl w B os) :
    Calls Tryz.prog 61 #[.pointer (some ⟨B, 0, none⟩), .int .u32 v, .func (.func 62) #[] #[]] w fun e w' => e = .returned (.int .i64 (os.count v)) ∧ ∃ n, w.drewN n = w' := by
  have h64 := h.n64
  rw [← cnt_all]
  have hcl := Lib.hid (cnt_le v os)
  go_enter Tryz.func61, Tryz.ntmps61
  go_wp2_with fail
  refine h.there.mono ?_; rintro e w' ⟨rfl, rfl⟩
  go_wp2_with fail
  refine h.all.mono ?_; rintro e w' ⟨rfl, n, rfl⟩
  have h1 := h.drewN n
  have hd1 : Drawn w (w.drewN n) := ⟨n, rfl⟩
  obtain ⟨W, hW⟩ : ∃ W, w.drewN n = W := ⟨_, rfl⟩
  rw [hW] at h1 hd1 ⊢
  clear hW
  go_wp2_with fail
  go_loopw [6, 7, 8, 15] (fun c _ _ i wr => ∃ k : Nat, k ≤ os.length ∧ i = .int .i64 k ∧ c = .int .i64 (cnt v os k) ∧ Drawn W wr) (fun _ _ _ i _ => os.length - (intOf i).toNat)
  case atStart => exact ⟨0, Nat.zero_le _, rfl, rfl, Drawn.refl _⟩
  case round =>
    obtain ⟨k, hk, rfl, rfl, hdr⟩ := hrel
    have hck := hcl.out k
    by_cases hlt : k < os.length
    · have hc : wr.cell? ⟨B, k, none⟩ = some (.int .u32 (gd os k)) := by
        obtain ⟨q, rfl⟩ := hdr
        exact (h1.drewN q).at (by omega)
      by_cases he : gd os k = v
      · have hv : (gd os k == v) = true := by rw [beq_iff_eq]; exact he
        have hs := Lib.hid (cnt_succ_eq hlt he)
        replace he := Lib.hid he
        go_wp2_with fail
        refine (left1_any _ _).mono ?_; rintro e w' ⟨rfl, rfl⟩
        go_wp2_with fail
        go_roundw
        case rel => exact ⟨k + 1, by omega, by go_num, by rw [hs.out]; go_num, hdr⟩
        case measure => simp [intOf]; omega
      · have hv : (gd os k == v) = false := by rw [beq_eq_false_iff_ne]; exact he
        have hs := Lib.hid (cnt_succ_ne hlt he)
        replace he := Lib.hid he
        go_wp2_with fail
        go_roundw
        case rel => exact ⟨k + 1, by omega, by go_num, by rw [hs.out], hdr⟩
        case measure => simp [intOf]; omega
    · obtain rfl : os.length = k := by omega
      go_wp2_with fail
      go_ret
      obtain ⟨m, hm⟩ := hd1
      obtain ⟨m', hm'⟩ := hdr
      exact ⟨rfl, m + m', by rw [hm', hm, World.drewN_drewN]⟩
theorem left_ok {B : Nat} {os : List Int} (w : World) (h : Pl w B os) :
    Calls Tryz.prog 25 #[.pointer (some ⟨B, 0, none⟩)] w fun e w' => e = .returned (.int .i64 (os.count 0)) ∧ ∃ n, w.drewN n = w' := by
  go_enter Tryz.func25, Tryz.ntmps25
  go_wp2_with fail
  refine (each_left 0 _ h).mono ?_; rintro e w' ⟨rfl, n, rfl⟩
  go_wp2_with fail
  go_ret
  exact ⟨rfl, n, rfl⟩
set_option maxRecDepth 100000 in
set_option maxHeartbeats 2000000 in
theorem all1_ok {B X : Nat} {os : List Int} (k : Nat) (hk : k < os.length) (w : World) (h : Pl w B os) (hX : w.cell? ⟨X, 0, none⟩ = some (.pointer (some ⟨B, 0, none⟩))) :
    Calls Tryz.prog 138 #[.int .i64 k, .pointer (some ⟨X, 0, none⟩)] w fun e w' => e = .returned (.tuple #[]) ∧ Pl w' B (os.set k 0) ∧ w.grownBy w' (some B) := by
  have h64 := h.n64
  have hck := h.at (i := k) (by omega)
  have hfk := h.arr.frozen k
  have hk64 : k < 64 := by omega
  go_enter Tryz.func138, Tryz.ntmps138
  go_wp2_with fail
  refine bodyPost_end (results_none rfl _ _ _) rfl ?_
  exact ⟨rfl, h.set hk 0, grownBy_setCell _ _ _ _⟩
set_option maxRecDepth 100000 in
set_option maxHeartbeats 2000000 in
theorem each_all {B X : Nat} {os : List Int} (v : Int) (w : World) (h : Pl w B os) (hXB : X ≠ B) (hX : Boxed w X 81 (.pointer (some ⟨B, 0, none⟩))) :
    Calls Tryz.prog 61 #[.pointer (some ⟨B, 0, none⟩), .int .u32 v, .func (.func 138) #[] #[.pointer (some ⟨X, 0, none⟩)]] w fun e w' => e = .returned (.int .i64 (os.count v)) ∧ Pl w' B (os.map fun x => if x = v then 0 else x) ∧ w.grownBy w' (some B) := by
  have h64 := h.n64
  rw [← cnt_all, ← clr_all]
  have hcl := Lib.hid (cnt_le v os)
  go_enter Tryz.func61, Tryz.ntmps61
  go_wp2_with fail
  refine h.there.mono ?_; rintro e w' ⟨rfl, rfl⟩
  go_wp2_with fail
  refine h.all.mono ?_; rintro e w' ⟨rfl, n, rfl⟩
  have h1 := h.drewN n
  rw [← clr_zero v os] at h1
  have hX1 : Boxed (w.drewN n) X 81 (.pointer (some ⟨B, 0, none⟩)) := hX
  have hg1 : w.grownBy (w.drewN n) none := grown_drewN (grown_refl _ _) n
  obtain ⟨W, hW⟩ : ∃ W, w.drewN n = W := ⟨_, rfl⟩
  rw [hW] at h1 hX1 hg1 ⊢
  clear hW hX h
  go_wp2_with fail
  go_loopw [6, 7, 8, 15] (fun c _ _ i wr => ∃ k : Nat, k ≤ os.length ∧ i = .int .i64 k ∧ c = .int .i64 (cnt v os k) ∧ Pl wr B (clr v os k) ∧ W.grownBy wr (some B)) (fun _ _ _ i _ => os.length - (intOf i).toNat)
  case atStart => exact ⟨0, Nat.zero_le _, rfl, rfl, h1, grown_refl _ _⟩
  case round =>
    obtain ⟨k, hk, rfl, rfl, hP, hg⟩ := hrel
    have hck := hcl.out k
    by_cases hlt : k < os.length
    · have hc := hP.at (i := k) (by omega)
      rw [gd_clr_at hlt] at hc
      by_cases he : gd os k = v
      · have hv : (gd os k == v) = true := by rw [beq_iff_eq]; exact he
        have hs := Lib.hid (cnt_succ_eq hlt he)
        have hs2 := Lib.hid (clr_succ_eq hlt he)
        replace he := Lib.hid he
        have hX2 := (hX1.kept hg (by simp; exact hXB)).cell
        go_wp2_with fail
        refine (all1_ok k (by rw [clr_len]; exact hlt) _ hP hX2).mono ?_; rintro e w' ⟨rfl, hP2, hg2⟩
        go_wp2_with fail
        go_roundw
        case rel => exact ⟨k + 1, by omega, by go_num, by rw [hs.out]; go_num, by rw [hs2.out]; exact hP2, grown_trans hg hg2⟩
        case measure => simp [intOf]; omega
      · have hv : (gd os k == v) = false := by rw [beq_eq_false_iff_ne]; exact he
        have hs := Lib.hid (cnt_succ_ne hlt he)
        have hs2 := Lib.hid (clr_succ_ne hlt he)
        replace he := Lib.hid he
        go_wp2_with fail
        go_roundw
        case rel => exact ⟨k + 1, by omega, by go_num, by rw [hs.out], by rw [hs2.out]; exact hP, hg⟩
        case measure => simp [intOf]; omega
    · obtain rfl : os.length = k := by omega
      go_wp2_with fail
      go_ret
      exact ⟨rfl, hP, grown_trans (grown_weaken _ hg1) hg⟩
theorem all_zero (p : Option Addr) (w : World) : Calls Tryz.prog 135 #[.pointer p, .int .u32 0] w fun e w' => e = .returned (.int .i64 0) ∧ w.grownBy w' none := by
  go_enter Tryz.func135, Tryz.ntmps135
  go_wp2_with fail
  go_ret
  exact ⟨rfl, World.grownBy_alloc _ _ _⟩
theorem all_blocks {B : Nat} {os : List Int} (v : Int) (hv : v ≠ 0) (w : World) (h : Pl w B os) :
    Calls Tryz.prog 135 #[.pointer (some ⟨B, 0, none⟩), .int .u32 v] w fun e w' => e = .returned (.int .i64 (os.count v)) ∧ Pl w' B (os.map fun x => if x = v then 0 else x) ∧ w.grownBy w' (some B) := by
  have hv0 : (v == 0) = false := by rw [beq_eq_false_iff_ne]; exact hv
  have hB := h.arr.lt
  have hbx := Boxed.new w 81 (.pointer (some ⟨B, 0, none⟩))
  have hcx := hbx.cell
  have hgA := World.grownBy_alloc w (.cells #[.pointer (some ⟨B, 0, none⟩)] 81) none
  replace hv := Lib.hid hv
  go_enter Tryz.func135, Tryz.ntmps135
  go_wp2_with fail
  refine (each_all v _ (h.keep hgA) (by omega) hbx).mono ?_; rintro e w' ⟨rfl, hP, hg⟩
  go_wp2_with fail
  go_ret
  exact ⟨rfl, hP, grown_trans (grown_weaken _ hgA) hg⟩
end Go.Proofs.YtneamjaglgnmkaaGreatDoor.PolN
