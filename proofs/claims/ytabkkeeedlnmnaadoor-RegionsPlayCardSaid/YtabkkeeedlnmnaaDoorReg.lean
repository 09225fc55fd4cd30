/- Package regions. -/
import Derived.Test.YtabkkeeedlnmnaaDoorRows
import Derived.Test.YtabkkeeedlnmnaaDoorBlk
namespace Go.Proofs.YtabkkeeedlnmnaaDoor
open Go.RowKit Go.Shelf Tk
set_option linter.unusedVariables false
set_option linter.unusedSimpArgs false

theorem infoByte : (Tryd.prog.info? 5).map (fun i => (i.zero, i.size, i.bytes)) = some (some (.int .u8 0), 1, 1) := by kernel_rfl
theorem byteSize : (Tryd.prog.info? 5).map (·.size) = some 1 := by kernel_rfl
/-- A region's cells. -/
def rV (M n : Nat) (i : Nat) : Value := if i = 0 then .slice (some ⟨M, 0, none⟩) n n else .bool true
structure Reg (w : World) (B M : Nat) (xs : List Int) : Prop where
  hdr : Arr w B 2 (rV M xs.length)
  row : Blk w M 5 .u8 xs
  ne : B ≠ M
  fit : ∀ i, i < xs.length → 0 ≤ gd xs i ∧ gd xs i < 256
theorem Reg.kept {w w' : World} {B M : Nat} {xs : List Int} {r : Option Nat} (h : Reg w B M xs) (hg : w.grownBy w' r) (h1 : r ≠ some B) (h2 : r ≠ some M) : Reg w' B M xs := ⟨h.hdr.kept hg h1, h.row.kept hg h2, h.ne, h.fit⟩
theorem Reg.keep {w w' : World} {B M : Nat} {xs : List Int} (h : Reg w B M xs) (hg : w.grownBy w' none) : Reg w' B M xs := h.kept hg (by simp) (by simp)
theorem Reg.cells {w : World} {B M : Nat} {xs : List Int} (h : Reg w B M xs) : w.cell? ⟨B, 0, none⟩ = some (.slice (some ⟨M, 0, none⟩) xs.length xs.length) ∧ w.cell? ⟨B, 1, none⟩ = some (.bool true) :=
  ⟨h.hdr.cell (i := 0) (by decide), h.hdr.cell (i := 1) (by decide)⟩

set_option maxRecDepth 100000 in
set_option maxHeartbeats 1000000 in
theorem part_ok (B M : Nat) (xs : List Int) (a m : Nat) (hm : 1 ≤ m) (h : a + m ≤ xs.length) (hl : xs.length ≤ 4096) (w : World) (hR : Reg w B M xs) :
    Calls Tryd.prog 102 #[.pointer (some ⟨B, 0, none⟩), .int .u32 a, .int .u64 m] w fun e w' => e = .returned (.tuple #[.slice (some ⟨M, a, none⟩) m m, .int .i64 0]) ∧ w = w' := by
  obtain ⟨c0, c1⟩ := hR.cells
  have hgt : ¬ xs.length < a + m := by omega
  go_enter Tryd.func102, Tryd.ntmps102
  go_wp2
  go_ret2
  exact ⟨by simp, rfl⟩
set_option maxHeartbeats 1000000 in
theorem part_out (B M : Nat) (xs : List Int) (a m : Nat) (ha : a < 4294967296) (hm : m ≤ 4) (h : xs.length < a + m) (hl : xs.length ≤ 4096) (w : World) (hR : Reg w B M xs) :
    Calls Tryd.prog 102 #[.pointer (some ⟨B, 0, none⟩), .int .u32 a, .int .u64 m] w fun e w' => e = .returned (.tuple #[.slice none 0 0, .int .i64 4]) ∧ w = w' := by
  obtain ⟨c0, c1⟩ := hR.cells
  go_enter Tryd.func102, Tryd.ntmps102
  go_wp2
  go_ret2
  exact ⟨rfl, rfl⟩
theorem part_nil (v u : Value) (w : World) :
    Calls Tryd.prog 102 #[.pointer none, v, u] w fun e w' => e = .returned (.tuple #[.slice none 0 0, .int .i64 2]) ∧ w = w' := by
  go_enter Tryd.func102, Tryd.ntmps102
  go_wp2
  go_ret2
  exact ⟨rfl, rfl⟩
theorem part_zero (B : Nat) (v u : Value) (w : World) (hc : w.cell? ⟨B, 1, none⟩ = some (.bool false)) :
    Calls Tryd.prog 102 #[.pointer (some ⟨B, 0, none⟩), v, u] w fun e w' => e = .returned (.tuple #[.slice none 0 0, .int .i64 2]) ∧ w = w' := by
  go_enter Tryd.func102, Tryd.ntmps102
  go_wp2
  go_ret2
  exact ⟨rfl, rfl⟩

/-- The number that some bytes make, the highest first. -/
def wd (xs : List Int) (a : Nat) : Nat → Int
  | 0 => 0
  | k + 1 => wd xs a k * 256 + gd xs (a + k)
theorem wd_lt {xs : List Int} {a n : Nat} (h : ∀ i, i < n → 0 ≤ gd xs (a + i) ∧ gd xs (a + i) < 256) : ∀ k, k ≤ n → 0 ≤ wd xs a k ∧ wd xs a k < 256 ^ k := by
  intro k
  induction k with
  | zero => intro _; simp [wd]
  | succ k ih =>
    intro hk
    obtain ⟨h1, h2⟩ := ih (by omega)
    obtain ⟨h3, h4⟩ := h k (by omega)
    simp only [wd]
    rw [Int.pow_succ]
    omega
theorem or_byte (W x : Int) (h1 : 0 ≤ W) (h2 : W < 16777216) (h3 : 0 ≤ x) (h4 : x < 256) : bits .or .u32 (W * 256) x = W * 256 + x :=
  bits_join .u32 32 (by decide) (fun n h0 h1 => by rw [IntKind.wrap_u32]; omega) 8 (W * 256) x (by omega) (by omega) (by omega) (by omega) (by omega) (by omega)
set_option maxRecDepth 100000 in
set_option maxHeartbeats 1000000 in
theorem word_ok (B M : Nat) (xs : List Int) (a : Nat) (h : a + 4 ≤ xs.length) (hl : xs.length ≤ 4096) (w : World) (hR : Reg w B M xs) :
    Calls Tryd.prog 35 #[.pointer (some ⟨B, 0, none⟩), .int .u32 a] w fun e w' => e = .returned (.tuple #[.int .u32 (wd xs a 4), .int .i64 0]) ∧ w = w' := by
  have hfit := Lib.hid hR.fit
  go_enter Tryd.func35, Tryd.ntmps35
  go_wp2_with fail
  refine (part_ok B M xs a 4 (by decide) h hl _ hR).mono ?_; rintro e w' ⟨rfl, rfl⟩
  go_wp2_with fail
  go_loop [4, 17] (fun n i => ∃ k : Nat, k ≤ 4 ∧ i = .int .i64 k ∧ n = .int .u32 (wd xs a k)) (fun _ i => 4 - (intOf i).toNat)
  case atStart => exact ⟨0, by decide, rfl, rfl⟩
  case round =>
    obtain ⟨k, hk, rfl, rfl⟩ := hrel
    by_cases hlt : k < 4
    · have hc := hR.row.cell (i := a + k) (by omega)
      obtain ⟨f1, f2⟩ := hfit.out (a + k) (by omega)
      obtain ⟨g1, g2⟩ := wd_lt (xs := xs) (a := a) (n := 4) (fun i hi => hfit.out (a + i) (by omega)) k (by omega)
      have g3 : wd xs a k < 16777216 := Int.lt_of_lt_of_le g2 (by
        rcases (by omega : k = 0 ∨ k = 1 ∨ k = 2 ∨ k = 3) with rfl | rfl | rfl | rfl <;> decide)
      have hor := or_byte _ _ g1 g3 f1 f2
      have hs : Hid (wd xs a (k + 1) = wd xs a k * 256 + gd xs (a + k)) := rfl
      clear g2
      generalize wd xs a k = W at *
      generalize gd xs (a + k) = x at *
      go_wp2_with fail
      go_round
      case rel => exact ⟨k + 1, by omega, by go_num, by rw [hs.out]⟩
      case measure => simp [intOf]; omega
    · obtain rfl : k = 4 := by omega
      go_wp2_with fail
      go_ret2
      exact ⟨rfl, rfl⟩
/-- The part is refused. -/
def NoPart (p a : Value) (m : Nat) (e : Nat) (w : World) : Prop :=
  Calls Tryd.prog 102 #[p, a, .int .u64 m] w fun x w' => x = .returned (.tuple #[.slice none 0 0, .int .i64 e]) ∧ w = w'
theorem word_no (p a : Value) (e : Nat) (w : World) (hp : NoPart p a 4 e w) :
    Calls Tryd.prog 35 #[p, a] w fun x w' => x = .returned (.tuple #[.int .u32 0, .int .i64 e]) ∧ w = w' := by
  go_enter Tryd.func35, Tryd.ntmps35
  go_wp2_with fail
  refine Calls.mono hp ?_; rintro x w' ⟨rfl, rfl⟩
  clear hp
  go_wp2_with fail
  go_loop [4, 17] (fun n i => n = .int .u32 0 ∧ i = .int .i64 0) (fun _ _ => 0)
  case atStart => exact ⟨rfl, rfl⟩
  case round =>
    obtain ⟨rfl, rfl⟩ := hrel
    go_wp2_with fail
    go_ret2
    exact ⟨rfl, rfl⟩
theorem byte_no (p a : Value) (e : Nat) (he : e ≠ 0) (w : World) (hp : NoPart p a 1 e w) :
    Calls Tryd.prog 37 #[p, a] w fun x w' => x = .returned (.tuple #[.int .u8 0, .int .i64 e]) ∧ w = w' := by
  have he' : ((e : Int) != 0) = true := by rw [bne_iff_ne]; omega
  go_enter Tryd.func37, Tryd.ntmps37
  go_wp2_with fail
  refine Calls.mono hp ?_; rintro x w' ⟨rfl, rfl⟩
  clear hp
  go_wp2_with fail
  go_ret2
  exact ⟨rfl, rfl⟩
set_option maxHeartbeats 1000000 in
theorem byte_ok (B M : Nat) (xs : List Int) (a : Nat) (h : a < xs.length) (hl : xs.length ≤ 4096) (w : World) (hR : Reg w B M xs) :
    Calls Tryd.prog 37 #[.pointer (some ⟨B, 0, none⟩), .int .u32 a] w fun e w' => e = .returned (.tuple #[.int .u8 (gd xs a), .int .i64 0]) ∧ w = w' := by
  have hc := hR.row.cell h
  go_enter Tryd.func37, Tryd.ntmps37
  go_wp2_with fail
  refine (part_ok B M xs a 1 (by decide) h hl _ hR).mono ?_; rintro e w' ⟨rfl, rfl⟩
  go_wp2_with fail
  go_ret2
  exact ⟨rfl, rfl⟩
set_option maxRecDepth 100000 in
set_option maxHeartbeats 1000000 in
theorem setWord_no (p a : Value) (v : Int) (e : Nat) (w : World) (hp : NoPart p a 4 e w) :
    Calls Tryd.prog 31 #[p, a, .int .u32 v] w fun x w' => x = .returned (.int .i64 e) ∧ w.grownBy w' none := by
  go_enter Tryd.func31, Tryd.ntmps31
  go_wp2_with fail
  refine Calls.mono hp ?_; rintro x w' ⟨rfl, rfl⟩
  clear hp
  go_wp2_with (refine wpList_copy_nothing rfl _ _ 61 61 rfl 5 Tryd.underlying61 byteSize none (some ⟨w.heap.size, 0, none⟩) 0 0 4 4 rfl rfl rfl ?_)
  go_ret
  exact ⟨rfl, World.grownBy_alloc _ _ _⟩
theorem setByte_no (p a : Value) (v : Int) (e : Nat) (w : World) (hp : NoPart p a 1 e w) :
    Calls Tryd.prog 33 #[p, a, .int .u8 v] w fun x w' => x = .returned (.int .i64 e) ∧ w.grownBy w' none := by
  go_enter Tryd.func33, Tryd.ntmps33
  go_wp2_with fail
  refine Calls.mono hp ?_; rintro x w' ⟨rfl, rfl⟩
  clear hp
  go_wp2_with (refine wpList_copy_nothing rfl _ _ 61 61 rfl 5 Tryd.underlying61 byteSize none (some ⟨w.heap.size, 0, none⟩) 0 0 1 1 rfl rfl rfl ?_)
  go_ret
  exact ⟨rfl, World.grownBy_alloc _ _ _⟩

/-- Some numbers of a list, written anew. -/
def put (xs : List Int) (a : Nat) (ys : List Int) : List Int := xs.take a ++ ys ++ xs.drop (a + ys.length)
theorem put_len {xs : List Int} {a : Nat} {ys : List Int} (h : a + ys.length ≤ xs.length) : (put xs a ys).length = xs.length := by
  simp [put]; omega
theorem put_gd {xs : List Int} {a : Nat} {ys : List Int} (h : a + ys.length ≤ xs.length) (i : Nat) :
    gd (put xs a ys) i = if a ≤ i ∧ i < a + ys.length then gd ys (i - a) else gd xs i := by
  unfold gd put
  by_cases h1 : i < a
  · rw [if_neg (by omega), List.append_assoc, List.getElem?_append_left (by simp; omega), List.getElem?_take, if_pos h1]
  · rw [List.append_assoc, List.getElem?_append_right (by simp; omega)]
    have e1 : (xs.take a).length = a := by simp; omega
    rw [e1]
    by_cases h2 : i < a + ys.length
    · rw [if_pos (by omega), List.getElem?_append_left (by omega)]
    · rw [if_neg (by omega), List.getElem?_append_right (by omega), List.getElem?_drop]
      congr 2; omega
theorem Reg.put {w w' : World} {B M : Nat} {xs ys : List Int} {a : Nat} (h : Reg w B M xs) (ha : a + ys.length ≤ xs.length) (hf : ∀ y ∈ ys, 0 ≤ y ∧ y < 256) (hg : w.grownBy w' (some M)) (hb : Blk w' M 5 .u8 (put xs a ys)) : Reg w' B M (put xs a ys) := by
  have hl := put_len ha
  refine ⟨?_, hb, h.ne, fun i hi => ?_⟩
  · rw [hl]; exact h.hdr.kept hg (by have := h.ne; simp; omega)
  · rw [put_gd ha]
    split
    · rename_i hi2
      exact hf _ (gd_mem (by omega))
    · exact h.fit i (by omega)
/-- The bytes of a number. -/
def wordBytes (v : Int) : List Int := [v / 16777216, v / 65536 % 256, v / 256 % 256, v % 256]
set_option maxRecDepth 100000 in
set_option maxHeartbeats 1000000 in
theorem setWord_ok (B M : Nat) (xs : List Int) (a : Nat) (v : Int) (hv : 0 ≤ v ∧ v < 4294967296) (h : a + 4 ≤ xs.length) (hl : xs.length ≤ 4096) (w : World) (hR : Reg w B M xs) :
    Calls Tryd.prog 31 #[.pointer (some ⟨B, 0, none⟩), .int .u32 a, .int .u32 v] w fun x w' => x = .returned (.int .i64 0) ∧ Reg w' B M (put xs a (wordBytes v)) ∧ w.grownBy w' (some M) := by
  have hvb : ∀ y ∈ wordBytes v, 0 ≤ y ∧ y < 256 := by intro y hy; simp [wordBytes] at hy; omega
  have hgA := World.grownBy_alloc w (.cells #[.int .u8 (v / 16777216), .int .u8 (v / 65536 % 256), .int .u8 (v / 256 % 256), .int .u8 (v % 256)] 5) none
  have hrow := hR.row.alloc (.cells #[.int .u8 (v / 16777216), .int .u8 (v / 65536 % 256), .int .u8 (v / 256 % 256), .int .u8 (v % 256)] 5)
  obtain ⟨hv1, hv2⟩ := hv
  go_enter Tryd.func31, Tryd.ntmps31
  go_wp2_with fail
  refine (part_ok B M xs a 4 (by decide) h hl _ hR).mono ?_; rintro e w' ⟨rfl, rfl⟩
  go_wp2_with (refine wpList_copy_own rfl _ _ 61 61 rfl 5 Tryd.underlying61 byteSize M a 4 4 ⟨w.heap.size, 0, none⟩ 4 4 rfl rfl _ 5 hrow ((wordBytes v).map (Value.int .u8)) rfl (World.news_of_block (heap_alloc_new w _)) (by simp [wordBytes]; omega) (by simp [Value.oneCell']) ?_)
  go_ret
  have hgS := grown_setRow (w.alloc (.cells #[.int .u8 (v / 16777216), .int .u8 (v / 65536 % 256), .int .u8 (v / 256 % 256), .int .u8 (v % 256)] 5)) M (((xs.map (Value.int .u8)).toArray.toList.take a ++ ((wordBytes v).map (Value.int .u8) ++ (xs.map (Value.int .u8)).toArray.toList.drop (a + ((wordBytes v).map (Value.int .u8)).length))).toArray)
  exact ⟨rfl, (hR.keep hgA).put (by simpa [wordBytes] using h) hvb hgS (hrow.put a (wordBytes v)), grown_trans (grown_weaken _ hgA) hgS⟩
end Go.Proofs.YtabkkeeedlnmnaaDoor
