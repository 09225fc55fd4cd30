/- Plain laws on tables. -/
import Derived.Test.YtoocpofcmnnlfaaHanB
namespace Go.Proofs.Ytoocpofcmnnlfaa
open Go.RowKit Go.Shelf Tk
set_option linter.unusedVariables false
set_option linter.unusedSimpArgs false

/-- A table that calls made: who is there has a generation, and a place that is one. -/
def Tab.good (t : Tab) : Prop := t.ok ∧ ∀ i, t.tk i = true → 1 ≤ t.age i ∧ i < t.many
theorem tab0_good {n : Nat} (h1 : 1 ≤ n) (h2 : n ≤ 256) : (tab0 n).good := ⟨tab0_ok h1 h2, fun i h => by simp [tab0] at h⟩
theorem Tab.good_take {t : Tab} (h : t.good) {k : Nat} (hk : k < t.many) (ha : t.age k < 16777215) : (t.take k).good := by
  refine ⟨Tab.ok_take h.1 ha, fun i hi => ?_⟩
  by_cases e : i = k
  · subst e; simp [Tab.take]; exact hk
  · have : t.tk i = true := by simpa [Tab.take, e] using hi
    have := h.2 i this
    simpa [Tab.take, e] using this
theorem Tab.good_let {t : Tab} (h : t.good) (k : Nat) : (t.let k).good := by
  refine ⟨h.1, fun i hi => ?_⟩
  by_cases e : i = k
  · subst e; simp [Tab.let] at hi
  · have : t.tk i = true := by simpa [Tab.let, e] using hi
    exact h.2 i this
theorem Tab.good_make {t : Tab} (h : t.good) : t.make.1.good := by
  unfold Tab.make
  cases hl : t.least with
  | none => exact h
  | some k => exact Tab.good_take h (Tab.least_spec hl).1 (Tab.least_spec hl).2.2.1
theorem Tab.good_drop {t : Tab} (h : t.good) (x : Nat) : (t.drop x).good := by
  unfold Tab.drop
  split
  · exact Tab.good_let h _
  · exact h
theorem Tab.h_div {t : Tab} {p : Nat} (hp : p < 256) : t.h p / 256 = t.age p := by unfold Tab.h; omega
theorem Tab.h_mod {t : Tab} {p : Nat} (hp : p < 256) : t.h p % 256 = p := by unfold Tab.h; omega
theorem Tab.h_lt {t : Tab} (h : t.ok) {p : Nat} (hp : p < 256) : t.h p < 4294967296 := by have := h.1 p; unfold Tab.h; omega
theorem Tab.place_h {t : Tab} (h : t.good) {p : Nat} (hp : t.tk p = true) : t.place (t.h p) = (p, 0) := by
  obtain ⟨h1, h2⟩ := h.2 p hp
  have h3 := h.1.2.2
  unfold Tab.place
  rw [Tab.h_div (by omega), Tab.h_mod (by omega), if_neg (by omega), if_neg (by simp [hp])]
theorem Tab.drop_h {t : Tab} (h : t.good) {p : Nat} (hp : t.tk p = true) : t.drop (t.h p) = t.let p := by
  have h2 := (h.2 p hp).2
  have h3 := h.1.2.2
  unfold Tab.drop
  rw [Tab.place_h h hp, if_pos rfl, Tab.h_mod (by omega)]

/-- The places that are had, rising. -/
def Tab.ps (t : Tab) : List Nat := (List.range t.many).filter t.tk
def Tab.at (t : Tab) (i : Nat) : Nat := t.ps[i]?.getD 0
theorem Tab.list_eq (t : Tab) : t.list = t.ps.map (fun i => (t.h i : Int)) := rfl
theorem Tab.list_len (t : Tab) : t.list.length = t.ps.length := by simp [Tab.list_eq]
theorem Tab.at_eq {t : Tab} {i : Nat} (hi : i < t.ps.length) : t.at i = t.ps[i] := by simp [Tab.at, hi]
theorem Tab.at_mem {t : Tab} {i : Nat} (hi : i < t.ps.length) : t.at i < t.many ∧ t.tk (t.at i) = true := by
  have := List.getElem_mem hi
  rw [← Tab.at_eq hi] at this
  simpa [Tab.ps] using this
theorem Tab.gd_list {t : Tab} {i : Nat} (hi : i < t.ps.length) : gd t.list i = (t.h (t.at i) : Int) := by
  rw [gd_lt (by rw [t.list_len]; exact hi), Tab.at_eq hi]
  simp [Tab.list_eq]
theorem range_sorted (n : Nat) : (List.range n).Pairwise (· < ·) := List.pairwise_lt_range
theorem Tab.at_mono {t : Tab} {i j : Nat} (hij : i < j) (hj : j < t.ps.length) : t.at i < t.at j := by
  have hp : t.ps.Pairwise (· < ·) := (range_sorted t.many).filter _
  rw [Tab.at_eq hj, Tab.at_eq (Nat.lt_trans hij hj)]
  exact List.pairwise_iff_getElem.1 hp i j _ _ hij
theorem Tab.ps_nodup (t : Tab) : t.ps.Nodup := List.nodup_range.filter _
theorem Tab.mem_ps {t : Tab} (h : t.good) {p : Nat} : p ∈ t.ps ↔ t.tk p = true := by
  simp only [Tab.ps, List.mem_filter, List.mem_range]
  exact ⟨fun h => h.2, fun hp => ⟨(h.2 p hp).2, hp⟩⟩
theorem Tab.upto_len_step (t : Tab) (k : Nat) : (t.upto (k + 1)).length = (t.upto k).length + if t.tk k then 1 else 0 := by
  cases h : t.tk k
  · rw [upto_miss t k h]; simp
  · rw [upto_hit t k h]; simp
/-- One fewer is there behind a drop. -/
theorem Tab.ps_let {t : Tab} (h : t.good) {p : Nat} (hp : t.tk p = true) : (t.let p).ps.length + 1 = t.ps.length := by
  have h1 : (t.let p).ps = t.ps.erase p := by
    have e1 : (t.let p).ps = t.ps.filter (fun q => q != p) := by
      unfold Tab.ps
      rw [List.filter_filter]
      apply List.filter_congr
      intro q _
      by_cases e : q = p <;> simp [Tab.let, e]
    rw [e1, ← List.Nodup.erase_eq_filter t.ps_nodup]
  rw [h1, List.length_erase_of_mem ((Tab.mem_ps h).2 hp)]
  have : 0 < t.ps.length := List.length_pos_of_mem ((Tab.mem_ps h).2 hp)
  omega
theorem Tab.ps_take {t : Tab} (h : t.good) {p : Nat} (hk : p < t.many) (ha : t.age p < 16777215) (hp : t.tk p = false) : (t.take p).ps.length = t.ps.length + 1 := by
  have h1 := Tab.ps_let (Tab.good_take h hk ha) (p := p) (by simp [Tab.take])
  have h2 : ((t.take p).let p).ps = t.ps := by
    unfold Tab.ps
    refine congrArg (fun q => List.filter q (List.range t.many)) ?_
    funext q
    by_cases e : q = p
    · subst e; simp [Tab.let, hp]
    · simp [Tab.let, Tab.take, e]
  rw [h2] at h1; exact h1.symm

/-- Some places are made; of the first of them some are dropped. -/
def tP (f : Nat → Bool) (n i k : Nat) : Tab := ⟨fun j => if j < i then 1 else 0, fun j => decide (j < i) && !(decide (j < k) && f j), n⟩
theorem tP_good {f : Nat → Bool} {n i k : Nat} (h1 : 1 ≤ n) (h2 : n ≤ 256) (hi : i ≤ n) : (tP f n i k).good := by
  refine ⟨⟨fun j => ?_, h1, h2⟩, fun j hj => ?_⟩
  · simp only [tP]; split <;> omega
  · simp [tP] at hj
    simp only [tP]
    rw [if_pos hj.1]
    omega
theorem tP_zero (f : Nat → Bool) (n : Nat) : tab0 n = tP f n 0 0 := by
  unfold tab0 tP; simp
theorem tP_make {f : Nat → Bool} {n i : Nat} (h : i < n) : (tP f n i 0).make = (tP f n (i + 1) 0, 256 + i, 0) := by
  have hl : (tP f n i 0).least = some i := least_some h (fun j hj => by simp [Tab.free, tP, hj]) (by simp [Tab.free, tP])
  unfold Tab.make
  rw [hl]
  simp only [Tab.take, Tab.h, tP]
  refine Prod.ext ?_ (Prod.ext ?_ rfl)
  · simp only [Tab.mk.injEq, and_true]
    constructor
    · funext j
      by_cases e : j = i
      · subst e; simp
      · by_cases e2 : j < i
        · have : j < i + 1 := by omega
          simp [e, e2, this]
        · have : ¬ j < i + 1 := by omega
          simp [e, e2, this]
    · funext j
      by_cases e : j = i
      · subst e; simp
      · by_cases e2 : j < i
        · have : j < i + 1 := by omega
          simp [e, e2, this]
        · have : ¬ j < i + 1 := by omega
          simp [e, e2, this]
  · simp
theorem tP_h {f : Nat → Bool} {n i k p : Nat} (hp : p < i) : (tP f n i k).h p = 256 + p := by simp [Tab.h, tP, hp]
theorem tP_place {f : Nat → Bool} {n i : Nat} (h2 : n ≤ 256) (h : i < n) : (tP f n (i + 1) 0).place (256 + i) = (i, 0) := by
  have := Tab.place_h (t := tP f n (i + 1) 0) (tP_good (by omega) h2 (by omega)) (p := i) (by simp [tP])
  rwa [tP_h (by omega)] at this
theorem tP_hit {f : Nat → Bool} {n i k : Nat} (h1 : 1 ≤ n) (h2 : n ≤ 256) (hi : i ≤ n) (h : k < i) (hf : f k = true) : (tP f n i k).drop (256 + k) = tP f n i (k + 1) ∧ ((tP f n i k).place (256 + k)).2 = 0 := by
  have g := tP_good (f := f) (k := k) h1 h2 hi
  have ht : (tP f n i k).tk k = true := by simp [tP, h]
  have e1 := Tab.drop_h g ht
  have e2 := Tab.place_h g ht
  rw [tP_h h] at e1 e2
  rw [e1, e2]
  refine ⟨?_, rfl⟩
  simp only [Tab.let, tP, Tab.mk.injEq, and_true, true_and]
  funext j
  by_cases e : j = k
  · subst e; simp [hf]
  · by_cases e2 : j < k
    · have : j < k + 1 := by omega
      simp [e, e2, this]
    · have : ¬ j < k + 1 := by omega
      simp [e, e2, this]
theorem tP_miss {f : Nat → Bool} {n i k : Nat} (hf : f k = false) : tP f n i k = tP f n i (k + 1) := by
  simp only [tP, Tab.mk.injEq, and_true, true_and]
  funext j
  by_cases e : j = k
  · subst e; simp [hf]
  · by_cases e2 : j < k
    · have : j < k + 1 := by omega
      simp [e2, this]
    · have : ¬ j < k + 1 := by omega
      simp [e2, this]
/-- How many of the first are left. -/
def lefts (f : Nat → Bool) : Nat → Nat
  | 0 => 0
  | k + 1 => lefts f k + if f k then 0 else 1
theorem lefts_succ (f : Nat → Bool) (k : Nat) : lefts f (k + 1) = lefts f k + if f k then 0 else 1 := rfl
theorem lefts_le (f : Nat → Bool) (k : Nat) : lefts f k ≤ k := by
  induction k with
  | zero => exact Nat.le_refl _
  | succ k ih => rw [lefts_succ]; split <;> omega
theorem tP_len {f : Nat → Bool} {n i : Nat} (hi : i ≤ n) : (tP f n i i).list.length = lefts f i := by
  have h1 : ∀ k, k ≤ i → ((tP f n i i).upto k).length = lefts f k := by
    intro k
    induction k with
    | zero => intro _; rfl
    | succ k ih =>
      intro hk
      rw [Tab.upto_len_step, ih (by omega)]
      have : k < i := by omega
      rw [lefts_succ]
      cases hf : f k <;> simp [tP, this, hf]
  have h2 : ∀ d, ((tP f n i i).upto (i + d)).length = lefts f i := by
    intro d
    induction d with
    | zero => exact h1 i (Nat.le_refl _)
    | succ d ih =>
      rw [← Nat.add_assoc, Tab.upto_len_step, ih]
      simp [tP]
  have := h2 (n - i)
  rw [show i + (n - i) = n from by omega] at this
  exact this
end Go.Proofs.Ytoocpofcmnnlfaa
