/- Heirs, in plain words: whom somebody waits for, and so on; the least ranks. -/
import Derived.Test.YtdbddfbdhgohbaaGreatDoorBase
namespace Tk.Hei
open Tk
set_option linter.unusedVariables false
set_option linter.unusedSimpArgs false

theorem pigeon : ∀ (N : Nat) (f : Nat → Nat), (∀ i, i ≤ N → f i < N) → ∃ i j, i < j ∧ j ≤ N ∧ f i = f j
  | 0, f, h => absurd (h 0 (Nat.le_refl _)) (Nat.not_lt_zero _)
  | N + 1, f, h => by
    by_cases he : ∃ i, i ≤ N ∧ f i = f (N + 1)
    · obtain ⟨i, hi, e⟩ := he
      exact ⟨i, N + 1, by omega, Nat.le_refl _, e⟩
    · have hv : ∀ i, i ≤ N → f i ≠ f (N + 1) := fun i hi e => he ⟨i, hi, e⟩
      obtain ⟨i, j, h1, h2, e⟩ := pigeon N (fun i => if f i = N then f (N + 1) else f i) (fun i hi => by
        have a := h i (by omega); have b := h (N + 1) (Nat.le_refl _); have c := hv i hi
        try dsimp only
        split <;> omega)
      refine ⟨i, j, h1, by omega, ?_⟩
      have ci := hv i (by omega); have cj := hv j (by omega)
      try dsimp only at e
      split at e <;> split at e <;> omega

/-- Each one of ws is -1 or a place. -/
def Okw (ws : List Int) : Prop := ∀ i, i < ws.length → -1 ≤ gd ws i ∧ gd ws i < (ws.length : Int)
def stp (ws : List Int) (a : Int) : Int := if a < 0 then a else gd ws a.toNat
/-- Whom somebody waits for, m times over. -/
def itr (ws : List Int) : Nat → Int → Int
  | 0, a => a
  | m + 1, a => itr ws m (stp ws a)
theorem itr_add (ws : List Int) : ∀ (a b : Nat) (x : Int), itr ws (a + b) x = itr ws a (itr ws b x)
  | a, 0, x => rfl
  | a, b + 1, x => by show itr ws (a + b) (stp ws x) = _; rw [itr_add ws a b]; rfl
theorem itr_neg (ws : List Int) : ∀ (m : Nat) (x : Int), x < 0 → itr ws m x = x
  | 0, x, _ => rfl
  | m + 1, x, h => by show itr ws m (stp ws x) = x; rw [show stp ws x = x by unfold stp; rw [if_pos h]]; exact itr_neg ws m x h
/-- The walk along the chain, n places at most: does it meet who? -/
def circ (ws : List Int) : Nat → Int → Int → Bool
  | 0, _, _ => false
  | n + 1, a, who => if a < 0 then false else if a = who then true else circ ws n (gd ws a.toNat) who
theorem circ_iff (ws : List Int) : ∀ (n : Nat) (a who : Int), 0 ≤ who → (circ ws n a who = true ↔ ∃ m, m < n ∧ itr ws m a = who)
  | 0, a, who, h => by simp [circ]
  | n + 1, a, who, h => by
    unfold circ
    by_cases h1 : a < 0
    · rw [if_pos h1]
      constructor
      · intro h; cases h
      · rintro ⟨m, -, e⟩; rw [itr_neg ws m a h1] at e; omega
    · rw [if_neg h1]
      by_cases h2 : a = who
      · rw [if_pos h2]
        exact ⟨fun _ => ⟨0, Nat.succ_pos _, h2⟩, fun _ => rfl⟩
      · rw [if_neg h2, circ_iff ws n _ who h]
        constructor
        · rintro ⟨m, hm, e⟩
          exact ⟨m + 1, by omega, by show itr ws m (stp ws a) = who; unfold stp; rw [if_neg h1]; exact e⟩
        · rintro ⟨m, hm, e⟩
          cases m with
          | zero => exact absurd e h2
          | succ m => exact ⟨m, by omega, by have e : itr ws m (stp ws a) = who := e; unfold stp at e; rw [if_neg h1] at e; exact e⟩
theorem itr_bound {ws : List Int} (hok : Okw ws) : ∀ (m : Nat) (a : Int), a < ws.length → itr ws m a < ws.length
  | 0, a, h => h
  | m + 1, a, h => by
    refine itr_bound hok m _ ?_
    unfold stp
    split
    · exact h
    · exact (hok a.toNat (by omega)).2
/-- Who is met at all is met within as many steps as there are. -/
theorem itr_short {ws : List Int} (hok : Okw ws) {a who : Int} (ha : a < ws.length) (hw : 0 ≤ who) : ∀ (m : Nat), itr ws m a = who → ∃ k, k < ws.length ∧ itr ws k a = who := by
  intro m
  induction m using Nat.strongRecOn with
  | _ m ih =>
    intro e
    by_cases hm : m < ws.length
    · exact ⟨m, hm, e⟩
    · have hnn : ∀ j, j ≤ m → 0 ≤ itr ws j a := fun j hj => by
        by_cases hn : itr ws j a < 0
        · have := itr_add ws (m - j) j a
          rw [show m - j + j = m by omega, itr_neg ws _ _ hn] at this
          omega
        · omega
      obtain ⟨i, j, h1, h2, h3⟩ := pigeon ws.length (fun j => (itr ws j a).toNat) (fun j hj => by
        have := hnn j (by omega); have := itr_bound hok j a ha; (try dsimp only); omega)
      have hi := hnn i (by omega); have hj := hnn j (by omega)
      try dsimp only at h3
      have h4 : itr ws i a = itr ws j a := by omega
      have e2 := itr_add ws (m - j) j a
      rw [show m - j + j = m by omega, ← h4, ← itr_add] at e2
      exact ih (m - j + i) (by omega) (by rw [← e2]; exact e)
def Reach (ws : List Int) (a who : Int) : Prop := ∃ m, itr ws m a = who
theorem circ_reach {ws : List Int} (hok : Okw ws) {n : Nat} (hn : ws.length ≤ n) {a who : Int} (ha : a < ws.length) (hw : 0 ≤ who) : circ ws n a who = true ↔ Reach ws a who := by
  rw [circ_iff ws n a who hw]
  constructor
  · rintro ⟨m, -, e⟩; exact ⟨m, e⟩
  · rintro ⟨m, e⟩
    obtain ⟨k, hk, e⟩ := itr_short hok ha hw m e
    exact ⟨k, by omega, e⟩
theorem Reach.refl (ws : List Int) (a : Int) : Reach ws a a := ⟨0, rfl⟩
theorem Reach.step {ws : List Int} {a b : Int} (h : Reach ws a b) : Reach ws a (stp ws b) := by
  obtain ⟨m, e⟩ := h
  refine ⟨1 + m, ?_⟩
  rw [itr_add, e]; rfl

/-- The ranks s let no one who waits have more than the one waited for. -/
def Closed (ws : List Int) (s : Nat → Int) : Prop := ∀ i, i < ws.length → 0 ≤ gd ws i → s i ≤ s (gd ws i).toNat
/-- Between the own ranks and the least ones. -/
structure Mid (bs ws out : List Int) : Prop where
  len : out.length = bs.length
  base : ∀ i, i < bs.length → gd bs i ≤ gd out i
  least : ∀ s : Nat → Int, (∀ i, i < bs.length → gd bs i ≤ s i) → Closed ws s → ∀ i, i < bs.length → gd out i ≤ s i
  come : ∀ i, i < bs.length → ∃ k, k < bs.length ∧ gd bs k = gd out i ∧ Reach ws k i
theorem Mid.start (bs ws : List Int) : Mid bs ws bs := ⟨rfl, fun _ _ => Int.le_refl _, fun _ h _ => h, fun i hi => ⟨i, hi, rfl, Reach.refl _ _⟩⟩
theorem gd_set {xs : List Int} {k i : Nat} (x : Int) (h : k < xs.length) : gd (xs.set k x) i = if i = k then x else gd xs i := by
  unfold gd
  rw [List.getElem?_set]
  by_cases e : k = i
  · subst e; simp [h]
  · rw [if_neg e, if_neg (fun h => e h.symm)]
theorem Mid.raise {bs ws out : List Int} (h : Mid bs ws out) (hl : ws.length = bs.length) {i : Nat} (hi : i < bs.length) {t : Nat} (ht : gd ws i = t) (htn : t < bs.length) (hlt : gd out t < gd out i) :
    Mid bs ws (out.set t (gd out i)) := by
  have htl : t < out.length := by rw [h.len]; exact htn
  refine ⟨by rw [List.length_set, h.len], fun j hj => ?_, fun s hs hc j hj => ?_, fun j hj => ?_⟩
  · rw [gd_set _ htl]
    have := h.base j hj
    split
    · subst j; omega
    · exact this
  · rw [gd_set _ htl]
    split
    · subst j
      have h1 := h.least s hs hc i hi
      have h2 := hc i (by omega) (by omega)
      rw [ht, Int.toNat_natCast] at h2
      omega
    · exact h.least s hs hc j hj
  · rw [gd_set _ htl]
    split
    · subst j
      obtain ⟨k, hk, e, hr⟩ := h.come i hi
      refine ⟨k, hk, e, ?_⟩
      have := hr.step
      unfold stp at this
      rw [if_neg (by omega), Int.toNat_natCast, ht] at this
      exact this
    · exact h.come j hj
structure Least (bs ws out : List Int) : Prop extends Mid bs ws out where
  closed : Closed ws (gd out)
theorem Least.uniq {bs ws a b : List Int} (h : Least bs ws a) (k : Least bs ws b) : a = b := by
  refine ext_gd (by rw [h.len, k.len]) fun i hi => ?_
  rw [h.len] at hi
  exact Int.le_antisymm (h.least _ k.base k.closed i hi) (k.least _ h.base h.closed i hi)
/-- What Ranks takes. -/
structure Okr (bs ws : List Int) : Prop where
  len : ws.length = bs.length
  few : bs.length ≤ 256
  base : ∀ i, i < bs.length → 0 ≤ gd bs i ∧ gd bs i ≤ 31
  to : ∀ i, i < bs.length → -1 ≤ gd ws i ∧ gd ws i < bs.length ∧ gd ws i ≠ i
theorem Okr.okw {bs ws : List Int} (h : Okr bs ws) : Okw ws := fun i hi => by rw [h.len] at hi ⊢; have := h.to i hi; omega
theorem Mid.fit {bs ws out : List Int} (h : Mid bs ws out) (ho : Okr bs ws) (i : Nat) (hi : i < bs.length) : 0 ≤ gd out i ∧ gd out i ≤ 31 := by
  obtain ⟨k, hk, e, -⟩ := h.come i hi
  have := ho.base k hk
  omega
/-- How much may be raised yet. -/
def room : List Int → Nat
  | [] => 0
  | x :: l => (32 - x).toNat + room l
theorem room_set : ∀ (l : List Int) (k : Nat) (x : Int), k < l.length → gd l k < x → x ≤ 32 → room (l.set k x) < room l
  | [], k, x, h, _, _ => absurd h (by simp)
  | y :: l, 0, x, h, h1, h2 => by
    have h1 : y < x := by simpa [gd] using h1
    show (32 - x).toNat + room l < (32 - y).toNat + room l
    omega
  | y :: l, k + 1, x, h, h1, h2 => by
    have := room_set l k x (by simpa using h) (by simpa [gd] using h1) h2
    show (32 - y).toNat + room (l.set k x) < (32 - y).toNat + room l
    omega

/-- With one more who waits no rank is less; only those that are waited for have more. -/
theorem Least.more {bs ws a b : List Int} (h : Least bs ws a) {i k : Nat} (hl : ws.length = bs.length) (hi : i < bs.length) (hk : k < bs.length) (hn : gd ws i < 0) (g : Least bs (ws.set i k) b) :
    ∀ n, n < bs.length → gd a n ≤ gd b n ∧ (gd a n < gd b n → Reach (ws.set i k) i n) := by
  have hil : i < ws.length := by omega
  have hc : Closed ws (gd b) := fun j hj hp => by
    have hne : j ≠ i := fun e => by subst e; omega
    have := g.closed j (by simpa using hj) (by rw [gd_set _ hil, if_neg hne]; exact hp)
    rw [gd_set _ hil, if_neg hne] at this
    exact this
  have hab := h.least _ g.base hc
  refine fun n hn' => ⟨hab n hn', fun hlt => Classical.byContradiction fun hr => ?_⟩
  have hs := g.least (fun m => open Classical in if Reach (ws.set i k) i m then gd b m else gd a m) (fun m hm => by
      try dsimp only
      split
      · exact g.base m hm
      · exact h.base m hm) (fun m hm hp => by
      rw [List.length_set] at hm
      have hm' : m < bs.length := by omega
      have hstp : stp (ws.set i k) m = gd (ws.set i k) m := by unfold stp; rw [if_neg (by omega), Int.toNat_natCast]
      have hcl := g.closed m (by simpa using hm) hp
      try dsimp only
      by_cases hmr : Reach (ws.set i k) i m
      · have h2 := hmr.step
        rw [hstp] at h2
        have e : ((gd (ws.set i k) m).toNat : Int) = gd (ws.set i k) m := by omega
        rw [if_pos hmr, if_pos (by rw [e]; exact h2)]
        exact hcl
      · rw [if_neg hmr]
        have hne : m ≠ i := fun e => hmr (by subst e; exact Reach.refl _ _)
        rw [gd_set _ hil, if_neg hne] at hp hcl ⊢
        have h2 := h.closed m hm hp
        split
        · have := hab m hm'; omega
        · exact h2) n hn'
  try dsimp only at hs
  rw [if_neg hr] at hs
  omega
theorem Okr.more {bs ws : List Int} (h : Okr bs ws) {i k : Nat} (hi : i < bs.length) (hk : k < bs.length) (hne : i ≠ k) : Okr bs (ws.set i k) := by
  refine ⟨by rw [List.length_set, h.len], h.few, h.base, fun j hj => ?_⟩
  rw [gd_set _ (by rw [h.len]; exact hi)]
  split
  · subst j; omega
  · exact h.to j hj
end Tk.Hei
