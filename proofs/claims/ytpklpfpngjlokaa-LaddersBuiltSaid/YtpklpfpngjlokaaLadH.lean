/- The statements' small helpers: has, SameInts. -/
import Derived.Test.YtpklpfpngjlokaaLadL
namespace Go.Proofs.Ytpklpfpngjlokaa
open Go.RowKit Go.Shelf Tk Tk.Lad
set_option linter.unusedVariables false
set_option linter.unusedSimpArgs false

set_option maxHeartbeats 1000000 in
theorem has_any (A : Option Addr) (c lo hi : Nat) (xs : List Int) (r : Int) (w : World) (hl : xs.length ≤ c) (hm : xs.length ≤ 1000000) (hs : SlA w lo hi .i64 A xs) :
    Calls Try.prog 15 #[.slice A xs.length c, .int .i64 r] w fun e w' => e = .returned (.bool (decide (r ∈ xs))) ∧ w = w' := by
  go_enter Try.func15, Try.ntmps15
  go_wp2
  go_loop [5] (fun i => ∃ k : Nat, k ≤ xs.length ∧ i = .int .i64 k ∧ Hid (∀ j, j < k → gd xs j ≠ r)) (fun i => xs.length - (intOf i).toNat)
  case atStart => exact ⟨0, Nat.zero_le _, rfl, fun j hj => absurd hj (Nat.not_lt_zero _)⟩
  case round =>
    obtain ⟨k, hk, rfl, hno⟩ := hrel
    by_cases hlt : k < xs.length
    · obtain ⟨b, o, rfl, hc⟩ := hs.at hlt
      clear hs
      by_cases he : gd xs k = r
      · have hb : (gd xs k == r) = true := by simpa using he
        have hin : Hid (decide (r ∈ xs) = true) := by have := gd_mem hlt; rw [he] at this; simpa [Hid] using this
        clear he
        go_wp2
        go_ret
        exact ⟨by rw [hin.out]; rfl, rfl⟩
      · have hb : (gd xs k == r) = false := by simpa using he
        have hno' : Hid (∀ j, j < k + 1 → gd xs j ≠ r) := fun j hj => by
          by_cases e : j = k
          · subst e; exact he
          · exact hno.out j (by omega)
        clear he
        go_wp2
        go_round
        case rel => exact ⟨k + 1, by omega, by go_num, hno'⟩
        case measure => simp [intOf]; omega
    · have hin : Hid (decide (r ∈ xs) = false) := by
        have : ¬ r ∈ xs := by
          rw [mem_iff_gd]
          rintro ⟨i, hi, e⟩
          exact hno.out i (by omega) e
        simpa [Hid] using this
      go_wp2
      go_ret
      exact ⟨by rw [hin.out]; rfl, rfl⟩

set_option maxHeartbeats 1000000 in
theorem sameInts_any (A B : Option Addr) (c d lo hi lo' hi' : Nat) (xs ys : List Int) (w : World) (hl : xs.length ≤ c) (hl' : ys.length ≤ d) (hm : xs.length ≤ 1000000) (hm' : ys.length ≤ 1000000)
    (hs : SlA w lo hi .i64 A xs) (hs' : SlA w lo' hi' .i64 B ys) :
    Calls Try.prog 22 #[.slice A xs.length c, .slice B ys.length d] w fun e w' => e = .returned (.bool (decide (xs = ys))) ∧ ∃ n, w.drewN n = w' := by
  by_cases hle : xs.length = ys.length
  · have hlb : ((xs.length : Int) != (ys.length : Int)) = false := by simp [hle]
    have hle' : xs.length ≤ ys.length ∧ ys.length ≤ xs.length := by omega
    have HL := Lib.hid hle
    clear hle
    go_enter Try.func22, Try.ntmps22
    go_wp2
    go_loopw [5] (fun i wr => ∃ (k n : Nat), k ≤ xs.length ∧ i = .int .i64 k ∧ Hid (∀ j, j < k → gd xs j = gd ys j) ∧ wr = w.drewN n) (fun i _ => xs.length - (intOf i).toNat)
    case atStart => exact ⟨0, 0, Nat.zero_le _, rfl, fun j hj => absurd hj (Nat.not_lt_zero _), rfl⟩
    case round =>
      obtain ⟨k, n, hk, rfl, hno, rfl⟩ := hrel
      by_cases hlt : k < xs.length
      · obtain ⟨b, o, rfl, hc⟩ := hs.at hlt
        obtain ⟨b', o', rfl, hc'⟩ := hs'.at (show k < ys.length by omega)
        have hlt' : k < ys.length := by omega
        clear hs hs'
        by_cases he : gd xs k = gd ys k
        · have hb : (gd xs k != gd ys k) = false := by simpa using he
          have hno' : Hid (∀ j, j < k + 1 → gd xs j = gd ys j) := fun j hj => by
            by_cases e : j = k
            · subst e; exact he
            · exact hno.out j (by omega)
          clear he
          go_wp2
          go_quiet (fail)
          go_wp2
          go_roundw
          case rel => exact ⟨k + 1, _, by omega, by go_num, hno', rfl⟩
          case measure => simp [intOf]; omega
        · have hb : (gd xs k != gd ys k) = true := by simpa using he
          have hne : Hid (decide (xs = ys) = false) := by
            have : xs ≠ ys := fun e => he (by rw [e])
            simpa [Hid] using this
          clear he
          go_wp2
          go_quiet (fail)
          go_wp2
          go_ret
          exact ⟨by rw [hne.out]; rfl, n + nq, (World.drewN_drewN _ _ _).symm⟩
      · have heq : Hid (decide (xs = ys) = true) := by
          have : xs = ys := ext_gd HL.out fun i hi => hno.out i (by omega)
          simpa [Hid] using this
        go_wp2
        go_ret
        exact ⟨by rw [heq.out]; rfl, n, rfl⟩
  · have hlb : ((xs.length : Int) != (ys.length : Int)) = true := by simp; omega
    have hne : Hid (decide (xs = ys) = false) := by
      have : xs ≠ ys := fun e => hle (by rw [e])
      simpa [Hid] using this
    clear hle
    go_enter Try.func22, Try.ntmps22
    go_wp2
    go_ret
    exact ⟨by rw [hne.out]; rfl, 0, rfl⟩

theorem set_at (a b r : Int) (n : Nat) (w : World) (ha : a = n) (hn : n < 4294967296) (hb : b = setN n r) :
    Calls Try.prog 10 #[.int .u32 a, .int .i64 r] w fun e w' => e = .returned (.int .u32 b) ∧ w = w' := by
  subst ha; subst hb; exact set_any n hn r w
theorem clear_at (a b r : Int) (n : Nat) (w : World) (ha : a = n) (hn : n < 4294967296) (hb : b = clrN n r) :
    Calls Try.prog 12 #[.int .u32 a, .int .i64 r] w fun e w' => e = .returned (.int .u32 b) ∧ w = w' := by
  subst ha; subst hb; exact clear_any n hn r w
theorem first_at (a b : Int) (n : Nat) (w : World) (ha : a = n) (hn : n < 4294967296) (h0 : n ≠ 0) (hb : b = n.log2) :
    Calls Try.prog 17 #[.int .u32 a] w fun e w' => e = .returned (.tuple #[.int .i64 b, .bool true]) ∧ w = w' := by
  subst ha; subst hb; exact first_pos n h0 hn w
theorem list_at (a : Int) (n : Nat) (xs : List Int) (w : World) (ha : a = n) (hn : n < 4294967296) (hx : ranksI n = xs) :
    Calls Try.prog 14 #[.int .u32 a] w fun e w' => ∃ A c, e = .returned (.slice A xs.length c) ∧ xs.length ≤ c ∧
      SlA w' w.heap.size w'.heap.size .i64 A xs ∧ w.grownBy w' none := by
  subst ha; subst hx; exact list_any n hn w

set_option maxRecDepth 100000 in
set_option maxHeartbeats 1000000 in
theorem alive_any (w : World) : Calls Try.prog 16 #[] w fun e w' => e = .returned (.bool true) ∧ w.grownBy w' none := by
  go_enter Try.func16, Try.ntmps16
  go_wp2_with fail
  refine (first_at 12 3 12 _ rfl (by decide) (by decide) (by decide)).mono ?_; rintro e w' ⟨rfl, rfl⟩
  go_wp2_with fail
  refine (first_zero _).mono ?_; rintro e w' ⟨rfl, rfl⟩
  go_wp2_with fail
  refine (set_at 0 8 3 0 _ rfl (by decide) (by decide)).mono ?_; rintro e w' ⟨rfl, rfl⟩
  go_wp2_with fail
  refine (set_at 8 8 3 8 _ rfl (by decide) (by decide)).mono ?_; rintro e w' ⟨rfl, rfl⟩
  go_wp2_with fail
  refine (set_at 0 0 32 0 _ rfl (by decide) (by decide)).mono ?_; rintro e w' ⟨rfl, rfl⟩
  go_wp2_with fail
  refine (clear_at 12 4 3 12 _ rfl (by decide) (by decide)).mono ?_; rintro e w' ⟨rfl, rfl⟩
  go_wp2_with fail
  refine (clear_at 8 8 4 8 _ rfl (by decide) (by decide)).mono ?_; rintro e w' ⟨rfl, rfl⟩
  go_wp2_with fail
  refine (list_at 2147483653 2147483653 [31, 2, 0] _ rfl (by decide) (by decide)).mono ?_; rintro e w1 ⟨A, c, rfl, hc, hs, hg⟩
  go_wp2_with fail
  refine (sameInts_any _ _ _ _ _ _ _ _ [31, 2, 0] [31, 2, 0] _ hc (by decide) (by decide) (by decide) (hs.alloc _) (SlA.made _ _ _ _ _ rfl)).mono ?_; rintro e w2 ⟨rfl, n, rfl⟩
  go_wp2_with fail
  go_ret
  exact ⟨rfl, grown_drewN (grown_alloc hg _) _⟩
end Go.Proofs.Ytpklpfpngjlokaa
