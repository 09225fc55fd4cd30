/- LaddersBuilt: a ladder is what is made of its ranks, in whatever order. -/
import Derived.Test.YtpklpfpngjlokaaLadO
import Derived.Test.YtpklpfpngjlokaaLadM2
namespace Go.Proofs.Ytpklpfpngjlokaa
open Go.RowKit Go.Shelf Tk Tk.Lad
set_option linter.unusedVariables false
set_option linter.unusedSimpArgs false

def low (xs : List Int) : List Int := xs.map (· % 32)
theorem low_len (xs : List Int) : (low xs).length = xs.length := by simp [low]
theorem low_take {xs : List Int} {k : Nat} (h : k < xs.length) : (low xs).take (k + 1) = (low xs).take k ++ [gd xs k % 32] := by
  rw [List.take_succ_eq_append_getElem (by rw [low_len]; exact h), gd_lt h]; simp [low]
theorem low_rev {xs : List Int} {k : Nat} (h : k < xs.length) : (low xs).reverse.take (k + 1) = (low xs).reverse.take k ++ [gd xs (xs.length - 1 - k) % 32] := by
  rw [List.take_succ_eq_append_getElem (by rw [List.length_reverse, low_len]; exact h), gd_lt (by omega)]; simp [low]
theorem take_snoc {xs : List Int} {k : Nat} (h : k < xs.length) : xs.take (k + 1) = xs.take k ++ [gd xs k] := by
  rw [List.take_succ_eq_append_getElem h, gd_lt h]
set_option maxRecDepth 100000 in
set_option maxHeartbeats 4000000 in
theorem laddersBuilt_walk (A0 : Option Addr) (c0 : Nat) (xs : List Int) (hl0 : xs.length ≤ c0) (w : World) (hs0 : SlA w 0 w.heap.size .u8 A0 xs) (hf : ∀ x ∈ xs, (Lit.int .u8 x).wf = true) (hb : xs.length * 1 ≤ 140737488351232) :
    Calls Try.prog 6 #[.slice A0 xs.length c0] w fun e w' => e = .returned (.bool true) ∧ w.grownBy w' none := by
  have hfit : Hid (∀ k, k < xs.length → 0 ≤ gd xs k ∧ gd xs k < 256) := fun k hk => wf_u8 (hf _ (gd_mem hk))
  clear hf
  by_cases hlen : 100 < xs.length
  · go_enter Try.func6, Try.ntmps6
    go_wp2_with fail
    refine (alive_any _).mono ?_; rintro e wd ⟨rfl, hg⟩
    go_wp2_with fail
    refine (alive_any _).mono ?_; rintro e we ⟨rfl, hg2⟩
    go_wp2_with fail
    go_ret
    exact ⟨rfl, grown_trans hg hg2⟩
  · have hle : xs.length ≤ 100 := by omega
    clear hlen
    go_enter Try.func6, Try.ntmps6
    go_wp2_with fail
    refine (alive_any _).mono ?_; rintro e wd ⟨rfl, hg⟩
    have hs1 := hs0.kept hg (by simp)
    clear hs0
    go_wp2_with fail
    go_loop [3, 4, 5] (fun a b i => ∃ k m n : Nat, k ≤ xs.length ∧ i = .int .i64 k ∧ a = .int .u32 m ∧ b = .int .u32 n ∧ m < 4294967296 ∧ n < 4294967296 ∧ Hid (m = setAll 0 ((low xs).take k)) ∧ Hid (n = setAll 0 ((low xs).reverse.take k))) (fun _ _ i => xs.length - (intOf i).toNat)
    case atStart => exact ⟨0, 0, 0, Nat.zero_le _, rfl, rfl, rfl, by decide, by decide, rfl, rfl⟩
    case round =>
      obtain ⟨k, m, n, hk, rfl, rfl, rfl, hm, hn, em, en⟩ := hrel
      by_cases hlt : k < xs.length
      · obtain ⟨b, o, rfl, hc⟩ := hs1.at hlt
        obtain ⟨b', o', e', hc'⟩ := hs1.at (i := xs.length - 1 - k) (by omega)
        cases e'
        obtain ⟨f1, f2⟩ := hfit.out k hlt
        obtain ⟨f3, f4⟩ := hfit.out (xs.length - 1 - k) (by omega)
        have e1 : Hid (setN m (gd xs k % 32) = setAll 0 ((low xs).take (k + 1))) := by
          show _ = _; rw [low_take hlt, setAll_snoc, ← em.out]
        have e2 : Hid (setN n (gd xs (xs.length - 1 - k) % 32) = setAll 0 ((low xs).reverse.take (k + 1))) := by
          show _ = _; rw [low_rev hlt, setAll_snoc, ← en.out]
        have h1 := set_lt hm (gd xs k % 32)
        have h2 := set_lt hn (gd xs (xs.length - 1 - k) % 32)
        clear hs1
        generalize gd xs k = u at *
        generalize gd xs (xs.length - 1 - k) = v at *
        go_wp2_with fail
        refine (set_any m hm _ _).mono ?_; rintro e w' ⟨rfl, rfl⟩
        go_wp2_with fail
        refine (set_any n hn _ _).mono ?_; rintro e w' ⟨rfl, rfl⟩
        go_wp2_with fail
        go_round
        case rel => exact ⟨k + 1, _, _, by omega, by go_num, rfl, rfl, h1, h2, e1, e2⟩
        case measure => simp [intOf]; omega
      · have e3 : Hid (m = setAll 0 (low xs)) := by
          have := em.out; rw [List.take_of_length_le (by rw [low_len]; omega)] at this; exact this
        have e4 : n = m := by
          have := en.out; rw [List.take_of_length_le (by rw [List.length_reverse, low_len]; omega)] at this
          rw [this, e3.out]; exact setAll_perm fun x => List.mem_reverse
        subst e4
        have hrl := setAll_len (l := 0) (by decide) (low xs)
        rw [← e3.out, low_len] at hrl
        have hrl2 : (ranksI n).length ≤ xs.length := by simpa [ranksI, ranks_zero] using hrl
        clear hrl em en
        go_wp2_with fail
        refine (list_any n hm _).mono ?_; rintro e wa ⟨A, ca, rfl, ha, hsa, hga⟩
        have hs2 := hs1.kept hga (by simp)
        have hg2 := grown_trans hg hga
        clear hs1
        go_wp2_with fail
        go_loop [7, 8] (fun c i => ∃ k m : Nat, k ≤ (ranksI n).length ∧ i = .int .i64 k ∧ c = .int .u32 m ∧ m < 4294967296 ∧ Hid (m = setAll 0 ((ranksI n).take k))) (fun _ i => (ranksI n).length - (intOf i).toNat)
        case atStart => exact ⟨0, 0, Nat.zero_le _, rfl, rfl, by decide, rfl⟩
        case round =>
          obtain ⟨k, m, hk, rfl, rfl, hm2, em⟩ := hrel
          by_cases hlt : k < (ranksI n).length
          · obtain ⟨b, o, rfl, hc⟩ := hsa.at hlt
            have e1 : Hid (setN m (gd (ranksI n) k) = setAll 0 ((ranksI n).take (k + 1))) := by
              show _ = _; rw [take_snoc hlt, setAll_snoc, ← em.out]
            have h1 := set_lt hm2 (gd (ranksI n) k)
            clear hsa
            generalize gd (ranksI n) k = u at *
            go_wp2_with fail
            refine (set_any m hm2 _ _).mono ?_; rintro e w' ⟨rfl, rfl⟩
            go_wp2_with fail
            go_round
            case rel => exact ⟨k + 1, _, by omega, by go_num, rfl, h1, e1⟩
            case measure => simp [intOf]; omega
          · have e4 : m = n := by
              have := em.out; rw [List.take_of_length_le (by omega)] at this
              rw [this]; exact setAll_ranks hm
            subst e4
            clear em
            go_wp2_with fail
            go_loop [9] (fun i => ∃ k : Nat, k ≤ xs.length ∧ i = .int .i64 k) (fun i => xs.length - (intOf i).toNat)
            case atStart => exact ⟨0, Nat.zero_le _, rfl⟩
            case round =>
              obtain ⟨k, hk, rfl⟩ := hrel
              by_cases hlt : k < xs.length
              · obtain ⟨b, o, rfl, hc⟩ := hs2.at hlt
                obtain ⟨f1, f2⟩ := hfit.out k hlt
                have hin : Hid (decide (gd xs k % 32 ∈ ranksI m) = true) := by
                  show _ = _
                  rw [decide_eq_true_eq, mem_ranksI hm]
                  refine ⟨by omega, ?_⟩
                  rw [e3.out, testBit_setAll, Nat.zero_testBit, Bool.false_or, decide_eq_true_eq]
                  refine ⟨by omega, ?_⟩
                  unfold low
                  rw [List.mem_map]
                  exact ⟨gd xs k, gd_mem hlt, by omega⟩
                clear hs2
                generalize gd xs k = u at *
                go_wp2_with fail
                refine (has_is _ _ _ _ _ _ _ _ ha (ranksI_len _) hsa hin.out).mono ?_; rintro e w' ⟨rfl, rfl⟩
                go_wp2_with fail
                go_round
                case rel => exact ⟨k + 1, by omega, by go_num⟩
                case measure => simp [intOf]; omega
              · go_wp2_with fail
                go_ret
                exact ⟨rfl, hg2⟩
end Go.Proofs.Ytpklpfpngjlokaa
