/- Plain arithmetic of ladders: a ladder is a number below 2^32, a rank a bit of it. -/
namespace Tk.Lad

/-- A rank is set; what is no rank changes nothing. -/
def setN (l : Nat) (r : Int) : Nat := if 0 ≤ r ∧ r ≤ 31 then l ||| 2 ^ r.toNat else l
/-- A rank is cleared. -/
def clrN (l : Nat) (r : Int) : Nat := if 0 ≤ r ∧ r ≤ 31 then (if l.testBit r.toNat then l - 2 ^ r.toNat else l) else l
/-- The ranks below n that have somebody, falling. -/
def down (l : Nat) : Nat → List Nat
  | 0 => []
  | n + 1 => if l.testBit n then n :: down l n else down l n
/-- All ranks that have somebody, falling. -/
def ranks (l : Nat) : List Nat := down l 32

theorem testBit_sub {l r : Nat} (h : l.testBit r = true) (i : Nat) : (l - 2 ^ r).testBit i = (l.testBit i && decide (i ≠ r)) := by
  have hm : l % 2 ^ r < 2 ^ r := Nat.mod_lt _ (Nat.two_pow_pos r)
  have hq : l / 2 ^ r % 2 = 1 := by simpa [Nat.testBit_eq_decide_div_mod_eq] using h
  have h1 : l = 2 ^ r * (l / 2 ^ r) + l % 2 ^ r := (Nat.div_add_mod l (2 ^ r)).symm
  generalize l / 2 ^ r = q at *
  generalize l % 2 ^ r = m at *
  obtain ⟨k, rfl⟩ : ∃ k, q = 2 * k + 1 := ⟨q / 2, by omega⟩
  have e2 : l - 2 ^ r = 2 ^ r * (2 * k) + m := by
    rw [h1, Nat.mul_add, Nat.mul_one]; omega
  rw [e2, h1, Nat.testBit_two_pow_mul_add _ hm, Nat.testBit_two_pow_mul_add _ hm]
  by_cases hi : i < r
  · simp [hi]; omega
  · simp only [hi, if_false]
    by_cases e : i = r
    · subst e; simp [Nat.testBit_zero]
    · obtain ⟨j, hj⟩ : ∃ j, i - r = j + 1 := ⟨i - r - 1, by omega⟩
      rw [hj]
      simp only [Nat.testBit_succ]
      have h2 : (2 * k + 1) / 2 = k := by omega
      have h3 : 2 * k / 2 = k := by omega
      rw [h2, h3]; simp [e]

theorem testBit_set (l : Nat) (r : Int) (i : Nat) : (setN l r).testBit i = (l.testBit i || (decide (0 ≤ r ∧ r ≤ 31) && decide (i = r.toNat))) := by
  unfold setN
  split
  · rename_i h
    rw [Nat.testBit_or, Nat.testBit_two_pow]
    by_cases e : i = r.toNat
    · subst e; simp [h]
    · have : ¬ r.toNat = i := fun h => e h.symm
      simp [e, this]
  · rename_i h; simp [h]
theorem testBit_clr (l : Nat) (r : Int) (i : Nat) : (clrN l r).testBit i = (l.testBit i && !(decide (0 ≤ r ∧ r ≤ 31) && decide (i = r.toNat))) := by
  unfold clrN
  split
  · rename_i h
    split
    · rename_i hb
      rw [testBit_sub hb]
      by_cases e : i = r.toNat <;> simp [e, h]
    · rename_i hb
      by_cases e : i = r.toNat
      · subst e; simp at hb; simp [hb]
      · simp [e]
  · rename_i h; simp [h]
theorem set_lt {l : Nat} (h : l < 4294967296) (r : Int) : setN l r < 4294967296 := by
  unfold setN
  split
  · rename_i hr
    exact Nat.or_lt_two_pow (n := 32) h (Nat.pow_lt_pow_right (by decide) (by omega))
  · exact h
theorem clr_le (l : Nat) (r : Int) : clrN l r ≤ l := by
  unfold clrN
  split
  · split
    · exact Nat.sub_le _ _
    · exact Nat.le_refl _
  · exact Nat.le_refl _
theorem clr_lt {l : Nat} (h : l < 4294967296) (r : Int) : clrN l r < 4294967296 := Nat.lt_of_le_of_lt (clr_le l r) h

theorem high {l : Nat} (h : l < 4294967296) {i : Nat} (hi : 32 ≤ i) : l.testBit i = false :=
  Nat.testBit_lt_two_pow (Nat.lt_of_lt_of_le h (Nat.pow_le_pow_right (n := 2) (by decide) hi))

theorem down_congr {a b : Nat} : ∀ n, (∀ i, i < n → a.testBit i = b.testBit i) → down a n = down b n
  | 0, _ => rfl
  | n + 1, h => by
    rw [down, down, h n (by omega), down_congr n fun i hi => h i (by omega)]
theorem down_skip {l : Nat} : ∀ {n m}, m ≤ n → (∀ i, m ≤ i → i < n → l.testBit i = false) → down l n = down l m
  | 0, m, hm, _ => by have : m = 0 := by omega
                      subst this; rfl
  | n + 1, m, hm, h => by
    by_cases e : m = n + 1
    · subst e; rfl
    · rw [down, h n (by omega) (by omega)]
      simp only [Bool.false_eq_true, if_false]
      exact down_skip (by omega) fun i h1 h2 => h i h1 (by omega)
theorem top_bit {l : Nat} (h : l ≠ 0) : l.testBit l.log2 = true := by
  have h1 := Nat.log2_self_le h
  have h2 := @Nat.lt_log2_self l
  rw [Nat.testBit_eq_decide_div_mod_eq]
  have : l / 2 ^ l.log2 = 1 := by
    have ha : 1 ≤ l / 2 ^ l.log2 := (Nat.le_div_iff_mul_le (Nat.two_pow_pos _)).2 (by omega)
    have hb : l / 2 ^ l.log2 < 2 := (Nat.div_lt_iff_lt_mul (Nat.two_pow_pos _)).2 (by rw [Nat.mul_comm]; rw [Nat.pow_succ] at h2; omega)
    omega
  rw [this]; rfl
theorem above_top {l i : Nat} (hi : l.log2 < i) : l.testBit i = false :=
  Nat.testBit_lt_two_pow (Nat.lt_of_lt_of_le (@Nat.lt_log2_self l) (Nat.pow_le_pow_right (by decide) hi))
theorem top_lt {l : Nat} (h0 : l ≠ 0) (h : l < 4294967296) : l.log2 < 32 := (Nat.log2_lt h0).2 h
theorem ranks_zero : ranks 0 = [] := by decide
theorem ranks_cons {l : Nat} (h0 : l ≠ 0) (h : l < 4294967296) : ranks l = l.log2 :: ranks (clrN l l.log2) := by
  have ht := top_lt h0 h
  have hb := top_bit h0
  unfold ranks
  rw [down_skip (n := 32) (m := l.log2 + 1) (by omega) (fun i h1 _ => above_top (by omega)), down, hb]
  simp only [if_true]
  congr 1
  rw [down_skip (l := clrN l l.log2) (n := 32) (m := l.log2) (by omega)
    (fun i h1 _ => by
      rw [testBit_clr]
      by_cases e : i = l.log2
      · subst e; simp; omega
      · rw [above_top (by omega)]; rfl)]
  refine down_congr _ fun i hi => ?_
  rw [testBit_clr]
  have : ¬ i = l.log2 := by omega
  simp [this]
theorem clr_top_lt {l : Nat} (h0 : l ≠ 0) (h : l < 4294967296) : clrN l l.log2 < l := by
  have ht := top_lt h0 h
  have hb := top_bit h0
  have := Nat.ge_two_pow_of_testBit hb
  have h2 := Nat.two_pow_pos l.log2
  unfold clrN
  rw [if_pos (by omega), if_pos (by simpa using hb)]
  simp only [Int.toNat_natCast]
  omega
theorem mem_down {l i : Nat} : ∀ n, i ∈ down l n ↔ i < n ∧ l.testBit i = true
  | 0 => by simp [down]
  | n + 1 => by
    rw [down]
    split
    · rename_i h
      rw [List.mem_cons, mem_down n]
      constructor
      · rintro (rfl | ⟨h1, h2⟩)
        · exact ⟨by omega, h⟩
        · exact ⟨by omega, h2⟩
      · rintro ⟨h1, h2⟩
        by_cases e : i = n
        · exact .inl e
        · exact .inr ⟨by omega, h2⟩
    · rename_i h
      rw [mem_down n]
      constructor
      · rintro ⟨h1, h2⟩; exact ⟨by omega, h2⟩
      · rintro ⟨h1, h2⟩
        have : i ≠ n := fun e => h (e ▸ h2)
        exact ⟨by omega, h2⟩
theorem mem_ranks {l i : Nat} (h : l < 4294967296) : i ∈ ranks l ↔ l.testBit i = true := by
  rw [ranks, mem_down]
  constructor
  · exact fun h => h.2
  · intro hb
    refine ⟨?_, hb⟩
    by_cases hi : i < 32
    · exact hi
    · rw [high h (by omega)] at hb; cases hb
theorem down_len (l : Nat) : ∀ n, (down l n).length ≤ n
  | 0 => Nat.le_refl 0
  | n + 1 => by rw [down]; have := down_len l n; split <;> simp <;> omega
theorem ranks_len (l : Nat) : (ranks l).length ≤ 32 := down_len l 32
theorem ext {a b : Nat} (ha : a < 4294967296) (hb : b < 4294967296) (h : ∀ i, i < 32 → a.testBit i = b.testBit i) : a = b := by
  apply Nat.eq_of_testBit_eq
  intro i
  by_cases hi : i < 32
  · exact h i hi
  · rw [high ha (by omega), high hb (by omega)]
theorem down_sorted (l : Nat) : ∀ n, (down l n).Pairwise (fun x y => y < x)
  | 0 => List.Pairwise.nil
  | n + 1 => by
    rw [down]
    split
    · refine List.Pairwise.cons (fun y hy => ((mem_down n).1 hy).1) (down_sorted l n)
    · exact down_sorted l n
theorem ranks_sorted (l : Nat) : (ranks l).Pairwise (fun x y => y < x) := down_sorted l 32
end Tk.Lad
