/- Package regions: SetByte, Bytes, New. -/
import Derived.Test.YtabkkeeedlnmnaaDoorReg
import Derived.Test.YtabkkeeedlnmnaaDoorSameB
namespace Go.Proofs.YtabkkeeedlnmnaaDoor
open Go.RowKit Go.Shelf Tk
set_option linter.unusedVariables false
set_option linter.unusedSimpArgs false

set_option maxRecDepth 100000 in
set_option maxHeartbeats 1000000 in
theorem setByte_ok (B M : Nat) (xs : List Int) (a : Nat) (v : Int) (hv : 0 ≤ v ∧ v < 256) (h : a < xs.length) (hl : xs.length ≤ 4096) (w : World) (hR : Reg w B M xs) :
    Calls Tryd.prog 33 #[.pointer (some ⟨B, 0, none⟩), .int .u32 a, .int .u8 v] w fun x w' => x = .returned (.int .i64 0) ∧ Reg w' B M (put xs a [v]) ∧ w.grownBy w' (some M) := by
  have hvb : ∀ y ∈ [v], 0 ≤ y ∧ y < 256 := by intro y hy; simp at hy; omega
  have hgA := World.grownBy_alloc w (.cells #[.int .u8 v] 5) none
  have hrow := hR.row.alloc (.cells #[.int .u8 v] 5)
  go_enter Tryd.func33, Tryd.ntmps33
  go_wp2_with fail
  refine (part_ok B M xs a 1 (by decide) h hl _ hR).mono ?_; rintro e w' ⟨rfl, rfl⟩
  go_wp2_with (refine wpList_copy_own rfl _ _ 61 61 rfl 5 Tryd.underlying61 byteSize M a 1 1 ⟨w.heap.size, 0, none⟩ 1 1 rfl rfl _ 5 hrow ([v].map (Value.int .u8)) rfl (World.news_of_block (heap_alloc_new w _)) (by simp; omega) (by simp [Value.oneCell']) ?_)
  go_ret
  have hgS := grown_setRow (w.alloc (.cells #[.int .u8 v] 5)) M (((xs.map (Value.int .u8)).toArray.toList.take a ++ ([v].map (Value.int .u8) ++ (xs.map (Value.int .u8)).toArray.toList.drop (a + ([v].map (Value.int .u8)).length))).toArray)
  exact ⟨rfl, (hR.keep hgA).put (by simp; omega) hvb hgS (hrow.put a [v]), grown_trans (grown_weaken _ hgA) hgS⟩

theorem nilTest (w : World) (a : Option Addr) (n c n' c' : Nat) : (binOp .eql 61 (.slice a n c) (.slice none n' c')).run Tryd.prog w = .ok (.bool a.isNone) w := Lib.run_eql_slice_nil w _ _ a n c n' c' Tryd.underlying61
theorem clone_nil (w : World) : Calls Tryd.prog 103 #[.slice none 0 0] w fun x w' => x = .returned (.slice none 0 0) ∧ w = w' := by
  have hnt := nilTest
  go_enter Tryd.func103, Tryd.ntmps103
  go_wp2
  go_ret
  exact ⟨rfl, rfl⟩
set_option maxRecDepth 100000 in
set_option maxHeartbeats 1000000 in
theorem clone_row (M : Nat) (xs : List Int) (hl : xs.length ≤ 4096) (w : World) (hB : Blk w M 5 .u8 xs) :
    Calls Tryd.prog 103 #[.slice (some ⟨M, 0, none⟩) xs.length xs.length] w fun x w' => ∃ A c, x = .returned (.slice A xs.length c) ∧ xs.length ≤ c ∧ Mine w' w.heap.size 5 .u8 (.slice A xs.length c) xs ∧ w.grownBy w' none := by
  obtain ⟨i0, hi, hz0, hz1, hz2⟩ := info_parts infoByte
  have hB' := hB.alloc (.cells #[] 5)
  have hnews : Hid (∀ j u, (xs.map (Value.int .u8))[j]? = some u → (w.alloc (.cells #[] 5)).cell? ((⟨M, 0, none⟩ : Addr).add j) = some u) := World.news_of_block hB'
  have hown : (w.alloc (.cells #[] 5)).ownsRow w.heap.size 5 1 (.slice (some ⟨w.heap.size, 0, none⟩) 0 0) 0 [] :=
    ⟨rfl, .inr ⟨w.heap.size, 0, #[], rfl, Nat.le_refl _, heap_alloc_new w _, Nat.le_refl _, by simp, rfl, rfl⟩⟩
  have hgA := World.grownBy_alloc w (.cells #[] 5) none
  have hnt := nilTest
  go_enter Tryd.func103, Tryd.ntmps103
  go_wp2_with (at_builtin; go_loud (refine wpList_append_own _ rfl _ _ 61 rfl w.heap.size 5 i0 (.int .u8 0) 1 1 Tryd.underlying61 hi hz0 hz1 hz2 rfl (by decide) (.slice (some ⟨w.heap.size, 0, none⟩) 0 0) 0 [] rfl hown ⟨M, 0, none⟩ xs.length xs.length (xs.map (Value.int .u8)) rfl (by simp) hnews.out (by simp [Value.oneCell']) (by unfold maxLen; omega) (by omega) (by simp) ?_; intro v' w1 hown' hgrow _))
  have hM : Mine w1 w.heap.size 5 .u8 v' xs := by
    unfold Mine; simpa using hown'
  obtain ⟨A, c, rfl, h1, h2, h3⟩ := hM.form
  go_ret
  exact ⟨A, c, rfl, h1, hM, grown_step hgA hgrow (Nat.le_refl _)⟩
theorem bytes_ok (B M : Nat) (xs : List Int) (hl : xs.length ≤ 4096) (w : World) (hR : Reg w B M xs) :
    Calls Tryd.prog 39 #[.pointer (some ⟨B, 0, none⟩)] w fun x w' => ∃ A c, x = .returned (.slice A xs.length c) ∧ xs.length ≤ c ∧ Mine w' w.heap.size 5 .u8 (.slice A xs.length c) xs ∧ w.grownBy w' none := by
  obtain ⟨c0, c1⟩ := hR.cells
  go_enter Tryd.func39, Tryd.ntmps39
  go_wp2_with fail
  refine (clone_row M xs hl w hR.row).mono ?_; rintro e w' ⟨A, c, rfl, h1, h2, h3⟩
  go_wp2_with fail
  go_ret
  exact ⟨A, c, rfl, h1, h2, h3⟩
theorem bytes_nil (w : World) : Calls Tryd.prog 39 #[.pointer none] w fun x w' => x = .returned (.slice none 0 0) ∧ w = w' := by
  go_enter Tryd.func39, Tryd.ntmps39
  go_wp2_with fail
  go_ret
  exact ⟨rfl, rfl⟩
theorem bytes_zero (B : Nat) (w : World) (hc : w.cell? ⟨B, 0, none⟩ = some (.slice none 0 0)) : Calls Tryd.prog 39 #[.pointer (some ⟨B, 0, none⟩)] w fun x w' => x = .returned (.slice none 0 0) ∧ w = w' := by
  go_enter Tryd.func39, Tryd.ntmps39
  go_wp2_with fail
  refine (clone_nil w).mono ?_; rintro e w' ⟨rfl, rfl⟩
  go_wp2_with fail
  go_ret
  exact ⟨rfl, rfl⟩

theorem new_bad (n : Int) (A : Option Addr) (m c : Nat) (hm : m ≤ 140737488355328) (h : n < 0 ∨ 4096 < n ∨ n < m) (w : World) :
    Calls Tryd.prog 28 #[.int .i64 n, .slice A m c] w fun x w' => x = .returned (.tuple #[.pointer none, .int .i64 1]) ∧ w = w' := by
  by_cases h1 : n < 0
  · go_enter Tryd.func28, Tryd.ntmps28
    go_wp2
    go_ret2
    exact ⟨rfl, rfl⟩
  · by_cases h2 : 4096 < n
    · go_enter Tryd.func28, Tryd.ntmps28
      go_wp2
      go_ret2
      exact ⟨rfl, rfl⟩
    · have h3 : n < m := by omega
      go_enter Tryd.func28, Tryd.ntmps28
      go_wp2
      go_ret2
      exact ⟨rfl, rfl⟩
set_option maxRecDepth 100000 in
set_option maxHeartbeats 1000000 in
theorem made_bytes (n : Nat) : (madeCells (Value.int .u8 0).cells (n * 1)).toList = (List.replicate n (0 : Int)).map (Value.int .u8) := by
  apply List.ext_getElem
  · simp [size_madeCells]
  · intro i h1 h2
    simp [madeCells, Value.cells, Nat.mod_one]
set_option maxRecDepth 100000 in
theorem new_none (n : Nat) (hn : n ≤ 4096) (A : Option Addr) (c : Nat) (w : World) :
    Calls Tryd.prog 28 #[.int .i64 n, .slice A 0 c] w fun x w' => ∃ B M, x = .returned (.tuple #[.pointer (some ⟨B, 0, none⟩), .int .i64 0]) ∧ Reg w' B M (List.replicate n 0) ∧ w.heap.size ≤ M ∧ w.heap.size ≤ B ∧ w.grownBy w' none := by
  obtain ⟨i0, hi0, hz0, hz1, hz2⟩ := info_parts infoByte
  go_enter Tryd.func28, Tryd.ntmps28
  go_wp2_with (first
    | (refine wpList_make_full w rfl _ _ 61 rfl w.heap.size 5 i0 (.int .u8 0) 1 Tryd.underlying61 hi0 hz0 hz1 .i64 .i64 n n n rfl rfl rfl rfl (by rw [hz2]; omega) (by unfold maxLen; omega) (Nat.le_refl _) ?_; intro w1 hown hgrow)
    | (refine wpList_copy_nothing rfl _ _ 61 61 rfl 5 Tryd.underlying61 byteSize (some ⟨w.heap.size, 0, none⟩) A n n 0 c rfl rfl (Nat.zero_min _) ?_))
  go_ret2
  obtain ⟨h1, h2, h3⟩ := Blk.of_owns (k := .u8) (xs := List.replicate n 0) (by rw [made_bytes] at hown; exact hown)
  have hlt := h1.lt
  refine ⟨w1.heap.size, w.heap.size, rfl, ⟨Arr.new _ _ _ _ _ rfl (fun i hi => ?_), h1.alloc _, by omega, fun i hi => ?_⟩, Nat.le_refl _, by omega, grown_alloc hgrow _⟩
  · rcases (by omega : i = 0 ∨ i = 1) with rfl | rfl <;> simp [rV]
  · have : gd (List.replicate n 0) i = 0 := by unfold gd; rw [List.getElem?_replicate]; split <;> rfl
    rw [this]; omega
set_option maxRecDepth 100000 in
theorem new_some (n : Nat) (hn : n ≤ 4096) (b o c : Nat) (ys : List Int) (hy0 : 0 < ys.length) (hys : ys.length ≤ n) (hf : ∀ i, i < ys.length → 0 ≤ gd ys i ∧ gd ys i < 256) (w : World) (lo hi : Nat) (hs : SlA w lo hi .u8 (some ⟨b, o, none⟩) ys) :
    Calls Tryd.prog 28 #[.int .i64 n, .slice (some ⟨b, o, none⟩) ys.length c] w fun x w' => ∃ B M, x = .returned (.tuple #[.pointer (some ⟨B, 0, none⟩), .int .i64 0]) ∧ Reg w' B M (ys ++ List.replicate (n - ys.length) 0) ∧ w.heap.size ≤ M ∧ w.heap.size ≤ B ∧ w.grownBy w' none := by
  obtain ⟨i0, hi0, hz0, hz1, hz2⟩ := info_parts infoByte
  have hsv := Lib.hid hs
  have hf := Lib.hid hf
  have hlen : (ys.map (Value.int .u8)).length = Nat.min ys.length n := by rw [List.length_map]; exact (Nat.min_eq_left hys).symm
  go_enter Tryd.func28, Tryd.ntmps28
  have hlen := Lib.hid hlen
  have h1' : ∀ v ∈ ys.map (Value.int .u8), v.oneCell' = true := by simp [Value.oneCell']
  have h1' := Lib.hid h1'
  go_wp2_with (first
    | (refine wpList_make_full w rfl _ _ 61 rfl w.heap.size 5 i0 (.int .u8 0) 1 Tryd.underlying61 hi0 hz0 hz1 .i64 .i64 n n n rfl rfl rfl rfl (by rw [hz2]; omega) (by unfold maxLen; omega) (Nat.le_refl _) ?_; intro w1 hown hgrow; obtain ⟨h1, h2, h3⟩ := Blk.of_owns (k := .u8) (xs := List.replicate n 0) (by rw [made_bytes] at hown; exact hown); have hsw := Lib.hid ((hs.kept hgrow (by simp)).alloc (.cells #[.slice (some ⟨w.heap.size, 0, none⟩) n n, .bool true] 121)); have hrow := h1.alloc (.cells #[.slice (some ⟨w.heap.size, 0, none⟩) n n, .bool true] 121))
    | (refine wpList_copy_own rfl _ _ 61 61 rfl 5 Tryd.underlying61 byteSize w.heap.size 0 n n ⟨b, o, none⟩ ys.length c rfl rfl _ 5 hrow (ys.map (Value.int .u8)) hlen.out hsw.out.src (by simp; omega) h1'.out ?_))
  have hlt := h1.lt
  have hgS := grown_setRow (w1.alloc (.cells #[.slice (some ⟨w.heap.size, 0, none⟩) n n, .bool true] 121)) w.heap.size ((ys.map (Value.int .u8) ++ List.replicate (n - ys.length) (Value.int .u8 0)).toArray)
  have hhdr := Arr.new w1 #[.slice (some ⟨w.heap.size, 0, none⟩) n n, .bool true] 121 2 (rV w.heap.size n) rfl (fun i hi => by rcases (by omega : i = 0 ∨ i = 1) with rfl | rfl <;> simp [rV])
  have hput := hrow.write (ys ++ List.replicate (n - ys.length) 0) ((ys.map (Value.int .u8) ++ List.replicate (n - ys.length) (Value.int .u8 0)).toArray) (by simp)
  have e2 : (ys ++ List.replicate (n - ys.length) (0:Int)).length = n := by simp; omega
  go_ret2
  refine ⟨w1.heap.size, w.heap.size, rfl, ⟨by rw [e2]; exact hhdr.kept hgS (by simp; omega), hput, by omega, fun i hi => ?_⟩, Nat.le_refl _, by omega, grown_step (grown_alloc hgrow _) hgS (Nat.le_refl _)⟩
  by_cases hi2 : i < ys.length
  · have : gd (ys ++ List.replicate (n - ys.length) 0) i = gd ys i := by unfold gd; rw [List.getElem?_append_left hi2]
    rw [this]; exact hf.out i hi2
  · have : gd (ys ++ List.replicate (n - ys.length) 0) i = 0 := by
      unfold gd; rw [List.getElem?_append_right (by omega), List.getElem?_replicate]; split <;> rfl
    rw [this]; omega
theorem new_ok (n : Nat) (hn : n ≤ 4096) (A : Option Addr) (c : Nat) (ys : List Int) (hys : ys.length ≤ n) (hf : ∀ i, i < ys.length → 0 ≤ gd ys i ∧ gd ys i < 256) (w : World) (lo hi : Nat) (hs : SlA w lo hi .u8 A ys) :
    Calls Tryd.prog 28 #[.int .i64 n, .slice A ys.length c] w fun x w' => ∃ B M, x = .returned (.tuple #[.pointer (some ⟨B, 0, none⟩), .int .i64 0]) ∧ Reg w' B M (ys ++ List.replicate (n - ys.length) 0) ∧ w.heap.size ≤ M ∧ w.heap.size ≤ B ∧ w.grownBy w' none := by
  rcases hs.2 with rfl | ⟨b, o, rfl, -⟩
  · have := new_none n hn A c w
    simpa using this
  · by_cases h0 : ys = []
    · subst h0
      have := new_none n hn (some ⟨b, o, none⟩) c w
      simpa using this
    · exact new_some n hn b o c ys (List.length_pos_iff.2 h0) hys hf w lo hi hs
end Go.Proofs.YtabkkeeedlnmnaaDoor
