/- timekeeperlaw01.SameWords. -/
import Derived.Test.YtneamjaglgnmkaaRows
import Derived.Test.YtneamjaglgnmkaaBase
namespace Go.Proofs.Ytneamjaglgnmkaa
open Go.RowKit Go.Shelf Tk
set_option linter.unusedVariables false
set_option linter.unusedSimpArgs false
set_option maxHeartbeats 1000000 in
theorem sameWords_any (A B : Option Addr) (c d lo hi lo' hi' : Nat) (xs ys : List Int) (w : World) (hl : xs.length ≤ c) (hl' : ys.length ≤ d) (hm : xs.length ≤ 1000000) (hm' : ys.length ≤ 1000000)
    (hs : SlA w lo hi .u32 A xs) (hs' : SlA w lo' hi' .u32 B ys) :
    Calls Try.prog 10 #[.slice A xs.length c, .slice B ys.length d] w fun e w' => e = .returned (.bool (decide (xs = ys))) ∧ ∃ n, w.drewN n = w' := by
  by_cases hle : xs.length = ys.length
  · have hlb : ((xs.length : Int) != (ys.length : Int)) = false := by simp [hle]
    have hle' : xs.length ≤ ys.length ∧ ys.length ≤ xs.length := by omega
    have HL := Lib.hid hle
    clear hle
    go_enter Try.func10, Try.ntmps10
    go_wp2
    go_loopw [5] (fun i wr => ∃ (k n : Nat), k ≤ xs.length ∧ i = .int .i64 k ∧ Hid (∀ j, j < k → gd xs j = gd ys j) ∧ wr = w.drewN n) (fun i _ => xs.length - (intOf i).toNat)
    case atStart => exact ⟨0, 0, Nat.zero_le _, rfl, fun j hj => absurd hj (Nat.not_lt_zero _), rfl⟩
    case round =>
      obtain ⟨k, n, hk, rfl, hno, rfl⟩ := hrel
      by_cases hlt : k < xs.length
      · obtain ⟨b, o, rfl, hc⟩ := hs.at hlt
        obtain ⟨b', o', rfl, hc'⟩ := hs'.at (show k < ys.length by omega)
        have hlt' : k < ys.length := by omega
        clear hs hs'
        by_cases he : gd xs k = gd ys k
        · have hb : (gd xs k != gd ys k) = false := by simpa using he
          have hno' : Hid (∀ j, j < k + 1 → gd xs j = gd ys j) := fun j hj => by
            by_cases e : j = k
            · subst e; exact he
            · exact hno.out j (by omega)
          clear he
          go_wp2
          go_quiet (fail)
          go_wp2
          go_roundw
          case rel => exact ⟨k + 1, _, by omega, by go_num, hno', rfl⟩
          case measure => simp [intOf]; omega
        · have hb : (gd xs k != gd ys k) = true := by simpa using he
          have hne : Hid (decide (xs = ys) = false) := by
            have : xs ≠ ys := fun e => he (by rw [e])
            simpa [Hid] using this
          clear he
          go_wp2
          go_quiet (fail)
          go_wp2
          go_ret
          exact ⟨by rw [hne.out]; rfl, n + nq, (World.drewN_drewN _ _ _).symm⟩
      · have heq : Hid (decide (xs = ys) = true) := by
          have : xs = ys := ext_gd HL.out fun i hi => hno.out i (by omega)
          simpa [Hid] using this
        go_wp2
        go_ret
        exact ⟨by rw [heq.out]; rfl, n, rfl⟩
  · have hlb : ((xs.length : Int) != (ys.length : Int)) = true := by simp; omega
    have hne : Hid (decide (xs = ys) = false) := by
      have : xs ≠ ys := fun e => hle (by rw [e])
      simpa [Hid] using this
    clear hle
    go_enter Try.func10, Try.ntmps10
    go_wp2
    go_ret
    exact ⟨by rw [hne.out]; rfl, 0, rfl⟩

end Go.Proofs.Ytneamjaglgnmkaa
