/- RegionsEdge. -/
import Derived.Test.YteiepkkebjbepaaRegA
namespace Go.Proofs.Yteiepkkebjbepaa
open Go.RowKit Go.Shelf Tk
set_option linter.unusedVariables false
set_option linter.unusedSimpArgs false

theorem word_e (B M : Nat) (xs : List Int) (a e : Nat) (x : Int) (hx : x = a) (ha : a < 4294967296) (he : (a + 4 ≤ xs.length ∧ e = 0) ∨ (xs.length < a + 4 ∧ e = 4)) (hl : xs.length ≤ 4096) (w : World) (hR : Reg w B M xs) :
    Calls Try.prog 9 #[.pointer (some ⟨B, 0, none⟩), .int .u32 x] w fun y w' => ∃ v, y = .returned (.tuple #[.int .u32 v, .int .i64 e]) ∧ w = w' := by
  rcases he with ⟨h, rfl⟩ | ⟨h, rfl⟩
  · subst hx
    exact (word_ok B M xs a h hl w hR).mono fun _ _ ⟨h1, h2⟩ => ⟨_, h1, h2⟩
  · exact (word_no _ _ 4 w (no_out B M xs a 4 x hx ha (by decide) h hl w hR)).mono fun _ _ ⟨h1, h2⟩ => ⟨_, h1, h2⟩
theorem byte_e (B M : Nat) (xs : List Int) (a e : Nat) (x : Int) (hx : x = a) (ha : a < 4294967296) (he : (a < xs.length ∧ e = 0) ∨ (xs.length < a + 1 ∧ e = 4)) (hl : xs.length ≤ 4096) (w : World) (hR : Reg w B M xs) :
    Calls Try.prog 10 #[.pointer (some ⟨B, 0, none⟩), .int .u32 x] w fun y w' => ∃ v, y = .returned (.tuple #[.int .u8 v, .int .i64 e]) ∧ w = w' := by
  rcases he with ⟨h, rfl⟩ | ⟨h, rfl⟩
  · subst hx
    exact (byte_ok B M xs a h hl w hR).mono fun _ _ ⟨h1, h2⟩ => ⟨_, h1, h2⟩
  · exact (byte_no _ _ 4 (by decide) w (no_out B M xs a 1 x hx ha (by decide) h hl w hR)).mono fun _ _ ⟨h1, h2⟩ => ⟨_, h1, h2⟩
theorem setWord_e (B M : Nat) (xs : List Int) (a e : Nat) (x v : Int) (hx : x = a) (hv : 0 ≤ v ∧ v < 4294967296) (ha : a < 4294967296) (he : (a + 4 ≤ xs.length ∧ e = 0) ∨ (xs.length < a + 4 ∧ e = 4)) (hl : xs.length ≤ 4096) (w : World) (hR : Reg w B M xs) :
    Calls Try.prog 11 #[.pointer (some ⟨B, 0, none⟩), .int .u32 x, .int .u32 v] w fun y w' => y = .returned (.int .i64 e) ∧ ∃ ys, ys.length = xs.length ∧ Reg w' B M ys ∧ w.grownBy w' (some M) := by
  rcases he with ⟨h, rfl⟩ | ⟨h, rfl⟩
  · subst hx
    exact (setWord_ok B M xs a v hv h hl w hR).mono fun _ _ ⟨h1, h2, h3⟩ => ⟨h1, _, put_len h, h2, h3⟩
  · exact (setWord_no _ _ v 4 w (no_out B M xs a 4 x hx ha (by decide) h hl w hR)).mono fun _ _ ⟨h1, h2⟩ => ⟨h1, xs, rfl, hR.keep h2, grown_weaken _ h2⟩
set_option maxRecDepth 100000 in
set_option maxHeartbeats 8000000 in
theorem regionsEdge_walk (a0 : Int) (w0 : (Lit.int .u16 a0).wf = true) (a1 : Int) (w1 : (Lit.int .u8 a1).wf = true) (w : World) :
    Calls Try.prog 7 #[.int .u16 a0, .int .u8 a1] w fun e w' => e = .returned (.bool true) ∧ w.grownBy w' none := by
  obtain ⟨h0, h1⟩ := wf_u16 w0
  obtain ⟨h2, h3⟩ := wf_u8 w1
  clear w0 w1
  obtain ⟨m, rfl⟩ := Int.eq_ofNat_of_zero_le h0
  obtain ⟨q, rfl⟩ := Int.eq_ofNat_of_zero_le h2
  obtain ⟨n, hn, hn2⟩ : ∃ n : Nat, (m : Int) % 4097 = n ∧ n ≤ 4096 := ⟨m % 4097, by omega, by omega⟩
  obtain ⟨K, hK, hK2⟩ : ∃ K : Int, (n : Int) - 8 + (q : Int) % 16 = K ∧ -8 ≤ K ∧ K ≤ 4103 := ⟨_, rfl, by omega, by omega⟩
  obtain ⟨a, ha, ha2⟩ : ∃ a : Nat, K % 4294967296 = a ∧ a < 4294967296 := ⟨(K % 4294967296).toNat, by omega, by omega⟩
  obtain ⟨z, hz, hz2, hz3⟩ : ∃ z : Nat, (4294967295 : Int) - (q : Int) % 4 = z ∧ 4294967292 ≤ z ∧ z < 4294967296 := ⟨(4294967295 - (q : Int) % 4).toNat, by omega, by omega, by omega⟩
  have hN := new_ok n hn2 none 0 [] (Nat.zero_le _) (fun i hi => absurd hi (Nat.not_lt_zero _)) w 0 0 (SlA.nil _ _ _)
  have hlr : (List.replicate n (0 : Int)).length = n := List.length_replicate
  have hN := Lib.hid hN
  obtain ⟨e1, e2, hcs⟩ : ∃ e1 e2 : Nat, (((decide (0 ≤ K) = false) ∧ n < a + 4 ∧ n < a + 1 ∧ e1 = 4 ∧ e2 = 4) ∨ ((decide (0 ≤ K) = true) ∧ (decide (K + 4 ≤ (n : Int)) = true) ∧ (decide (K < (n : Int)) = true) ∧ a + 4 ≤ n ∧ a < n ∧ e1 = 0 ∧ e2 = 0) ∨
      ((decide (0 ≤ K) = true) ∧ (decide (K + 4 ≤ (n : Int)) = false) ∧ (decide (K < (n : Int)) = true) ∧ n < a + 4 ∧ a < n ∧ e1 = 4 ∧ e2 = 0) ∨ ((decide (0 ≤ K) = true) ∧ (decide (K + 4 ≤ (n : Int)) = false) ∧ (decide (K < (n : Int)) = false) ∧ n < a + 4 ∧ n < a + 1 ∧ e1 = 4 ∧ e2 = 4)) := by
    simp only [decide_eq_true_eq, decide_eq_false_iff_not]
    by_cases c1 : 0 ≤ K
    · by_cases c2 : K + 4 ≤ (n : Int)
      · exact ⟨0, 0, .inr (.inl ⟨c1, c2, by omega, by omega, by omega, rfl, rfl⟩)⟩
      · by_cases c3 : K < (n : Int)
        · exact ⟨4, 0, .inr (.inr (.inl ⟨c1, c2, c3, by omega, by omega, rfl, rfl⟩))⟩
        · exact ⟨4, 4, .inr (.inr (.inr ⟨c1, c2, c3, by omega, by omega, rfl, rfl⟩))⟩
    · exact ⟨4, 4, .inl ⟨c1, by omega, by omega, rfl, rfl⟩⟩
  have hE1 : Hid ((a + 4 ≤ n ∧ e1 = 0) ∨ (n < a + 4 ∧ e1 = 4)) := by show _ ∨ _; omega
  have hE2 : Hid ((a < n ∧ e2 = 0) ∨ (n < a + 1 ∧ e2 = 4)) := by show _ ∨ _; omega
  go_enter Try.func7, Try.ntmps7
  go_wp2_with fail
  try rw [hn]
  refine hN.out.mono ?_; rintro e w3 ⟨B, M, rfl, hR, hM, hB, hg1⟩
  simp only [List.nil_append, List.length_nil, Nat.sub_zero] at hR
  generalize List.replicate n (0 : Int) = xs at *
  go_wp2_with fail
  try rw [ha]
  refine (word_e B M xs a e1 _ rfl ha2 (by rw [hlr]; exact hE1.out) (by omega) _ hR).mono ?_; rintro e w' ⟨v, rfl, rfl⟩
  go_wp2_with fail
  try rw [ha]
  refine (setWord_e B M xs a e1 _ 1 rfl (by decide) ha2 (by rw [hlr]; exact hE1.out) (by omega) _ hR).mono ?_; rintro e w4 ⟨rfl, ys, hly, hR4, hg4⟩
  have hg5 := grown_step hg1 hg4 hM
  go_wp2_with fail
  try rw [ha]
  refine (byte_e B M ys a e2 _ rfl ha2 (by rw [hly, hlr]; exact hE2.out) (by omega) _ hR4).mono ?_; rintro e w' ⟨v2, rfl, rfl⟩
  go_wp2_with fail
  refine (word_no _ _ 4 _ (no_out B M ys z 4 _ rfl hz3 (by decide) (by omega) (by omega) _ hR4)).mono ?_; rintro e w' ⟨rfl, rfl⟩
  go_wp2_with fail
  refine (alive_any _).mono ?_; rintro e w6 ⟨rfl, hg6⟩
  have hg7 := grown_trans hg5 hg6
  clear hE1 hE2 hN
  rcases hcs with ⟨d1, -, -, rfl, rfl⟩ | ⟨d1, d2, d3, -, -, rfl, rfl⟩ | ⟨d1, d2, d3, -, -, rfl, rfl⟩ | ⟨d1, d2, d3, -, -, rfl, rfl⟩
  all_goals
    go_wp2_with fail
    go_ret
    exact ⟨rfl, hg7⟩
end Go.Proofs.Yteiepkkebjbepaa
