/- More plain arithmetic of ladders: two ladders together, many ranks set and cleared. -/
import Derived.Test.YtpklpfpngjlokaaLadM
namespace Tk.Lad

theorem down_or_and (a b : Nat) : ∀ n, (down (a ||| b) n).length + (down (a &&& b) n).length = (down a n).length + (down b n).length
  | 0 => rfl
  | n + 1 => by
    have ih := down_or_and a b n
    simp only [down, Nat.testBit_or, Nat.testBit_and]
    cases a.testBit n <;> cases b.testBit n <;> simp <;> omega
theorem ranks_or_and (a b : Nat) : (ranks (a ||| b)).length + (ranks (a &&& b)).length = (ranks a).length + (ranks b).length := down_or_and a b 32
/-- One more rank: at most one more in the list. -/
theorem set_len {l : Nat} (_hl : l < 4294967296) (r : Int) : (ranks (setN l r)).length ≤ (ranks l).length + 1 := by
  unfold setN
  split
  · rename_i h
    have h1 := ranks_or_and l (2 ^ r.toNat)
    have h2 : (ranks (2 ^ r.toNat)).length ≤ 1 := by
      have : r.toNat < 32 := by omega
      generalize r.toNat = k at this ⊢
      match k, this with
      | 0, _ | 1, _ | 2, _ | 3, _ | 4, _ | 5, _ | 6, _ | 7, _ | 8, _ | 9, _ | 10, _ | 11, _ | 12, _ | 13, _ | 14, _ | 15, _ | 16, _ | 17, _ | 18, _ | 19, _ | 20, _ | 21, _ | 22, _ | 23, _ | 24, _ | 25, _ | 26, _ | 27, _ | 28, _ | 29, _ | 30, _ | 31, _ => decide
      | k + 32, h => omega
    omega
  · omega
/-- Many ranks set, one after the other. -/
def setAll (l : Nat) (rs : List Int) : Nat := rs.foldl setN l
theorem setAll_lt {l : Nat} (h : l < 4294967296) (rs : List Int) : setAll l rs < 4294967296 := by
  unfold setAll
  induction rs generalizing l with
  | nil => exact h
  | cons r rs ih => exact ih (set_lt h r)
theorem setAll_snoc (l : Nat) (rs : List Int) (r : Int) : setAll l (rs ++ [r]) = setN (setAll l rs) r := by simp [setAll]
theorem testBit_setAll (l : Nat) (rs : List Int) (i : Nat) : (setAll l rs).testBit i = (l.testBit i || decide (i < 32 ∧ (i : Int) ∈ rs)) := by
  unfold setAll
  induction rs generalizing l with
  | nil => simp
  | cons r rs ih =>
    rw [List.foldl_cons, ih, testBit_set, Bool.or_assoc, Bool.eq_iff_iff]
    simp only [Bool.or_eq_true, Bool.and_eq_true, decide_eq_true_eq, List.mem_cons]
    constructor
    · rintro (h | ⟨h, e⟩ | ⟨h1, h2⟩)
      · exact .inl h
      · exact .inr ⟨by omega, .inl (by omega)⟩
      · exact .inr ⟨h1, .inr h2⟩
    · rintro (h | ⟨h1, h | h⟩)
      · exact .inl h
      · exact .inr (.inl ⟨by omega, by omega⟩)
      · exact .inr (.inr ⟨h1, h⟩)
theorem setAll_len {l : Nat} (hl : l < 4294967296) (rs : List Int) : (ranks (setAll l rs)).length ≤ (ranks l).length + rs.length := by
  unfold setAll
  induction rs generalizing l with
  | nil => simp
  | cons r rs ih =>
    have h1 := ih (set_lt hl r)
    have h2 := set_len hl r
    simp only [List.foldl_cons, List.length_cons]
    omega
theorem setAll_ranks {l : Nat} (hl : l < 4294967296) : setAll 0 ((ranks l).map (fun (n : Nat) => (n : Int))) = l := by
  refine ext (setAll_lt (by decide) _) hl fun i hi => ?_
  rw [testBit_setAll, Nat.zero_testBit, Bool.false_or, Bool.eq_iff_iff, decide_eq_true_eq]
  constructor
  · rintro ⟨_, h⟩
    rw [List.mem_map] at h
    obtain ⟨a, ha, e⟩ := h
    have : a = i := by omega
    subst this
    exact (mem_ranks hl).1 ha
  · intro h
    exact ⟨hi, List.mem_map.2 ⟨i, (mem_ranks hl).2 h, rfl⟩⟩
theorem setAll_perm {rs ss : List Int} (h : ∀ x, x ∈ rs ↔ x ∈ ss) : setAll 0 rs = setAll 0 ss := by
  refine ext (setAll_lt (by decide) _) (setAll_lt (by decide) _) fun i _ => ?_
  rw [testBit_setAll, testBit_setAll]
  simp only [h]
/-- Ranks set, or cleared if the act is 128 or more. -/
def actN (l : Nat) (x : Int) : Nat := if x < 128 then setN l (x % 32) else clrN l (x % 32)
theorem act_lt {l : Nat} (h : l < 4294967296) (x : Int) : actN l x < 4294967296 := by unfold actN; split <;> first | exact set_lt h _ | exact clr_lt h _
theorem testBit_act (l : Nat) (x : Int) (i : Nat) : (actN l x).testBit i = if (i : Int) = x % 32 then decide (x < 128) else l.testBit i := by
  have h32 : 0 ≤ x % 32 ∧ x % 32 ≤ 31 := by omega
  unfold actN
  by_cases hx : x < 128
  · rw [if_pos hx, testBit_set]
    by_cases e : (i : Int) = x % 32
    · simp [e, hx, h32]; right; omega
    · have : ¬ i = (x % 32).toNat := by omega
      simp [e, this]
  · rw [if_neg hx, testBit_clr]
    by_cases e : (i : Int) = x % 32
    · have : i = (x % 32).toNat := by omega
      simp [e, hx, h32, ← this]
    · have : ¬ i = (x % 32).toNat := by omega
      simp [e, this]
/-- How many ranks there are: counted bit by bit. -/
def cnt (l : Nat) : Nat → Nat
  | 0 => 0
  | n + 1 => cnt l n + (if l.testBit n then 1 else 0)
theorem cnt_len (l : Nat) : ∀ n, cnt l n = (down l n).length
  | 0 => rfl
  | n + 1 => by
    rw [cnt, down, cnt_len l n]
    split <;> simp
/-- The greater of both first ones. -/
theorem log2_or {a b : Nat} (ha : a ≠ 0) (hb : b ≠ 0) : (a ||| b).log2 = max a.log2 b.log2 := by
  have hab : a ||| b ≠ 0 := by
    intro h
    have := congrArg (fun x => x.testBit a.log2) h
    simp [Nat.testBit_or, top_bit ha] at this
  have ht := top_bit hab
  rw [Nat.testBit_or, Bool.or_eq_true] at ht
  have h1 : (a ||| b).testBit a.log2 = true := by simp [Nat.testBit_or, top_bit ha]
  have h2 : (a ||| b).testBit b.log2 = true := by simp [Nat.testBit_or, top_bit hb]
  have g1 : a.log2 ≤ (a ||| b).log2 := by
    by_cases h : a.log2 ≤ (a ||| b).log2
    · exact h
    · rw [above_top (by omega)] at h1; cases h1
  have g2 : b.log2 ≤ (a ||| b).log2 := by
    by_cases h : b.log2 ≤ (a ||| b).log2
    · exact h
    · rw [above_top (by omega)] at h2; cases h2
  rcases ht with h | h
  · have : (a ||| b).log2 ≤ a.log2 := by
      by_cases h' : (a ||| b).log2 ≤ a.log2
      · exact h'
      · rw [above_top (by omega)] at h; cases h
    omega
  · have : (a ||| b).log2 ≤ b.log2 := by
      by_cases h' : (a ||| b).log2 ≤ b.log2
      · exact h'
      · rw [above_top (by omega)] at h; cases h
    omega
end Tk.Lad
