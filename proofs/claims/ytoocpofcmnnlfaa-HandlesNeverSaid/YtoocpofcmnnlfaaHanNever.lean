/- HandlesNever. -/
import Derived.Test.YtoocpofcmnnlfaaHanAny
import Derived.Test.YtoocpofcmnnlfaaOwn
namespace Go.Proofs.Ytoocpofcmnnlfaa
open Go.RowKit Go.Shelf Tk
set_option linter.unusedVariables false
set_option linter.unusedSimpArgs false

/-- What the law's two lists are to the table. -/
structure Never (T : Tab) (n k : Nat) (TH GN : List Int) : Prop where
  good : T.good
  many : T.many = n
  age : ∀ p, T.age p ≤ k
  nod : TH.Nodup
  mem : ∀ x, x ∈ TH ↔ x ∈ T.list
  gone : ∀ x ∈ GN, ∃ g : Nat, x = g ∧ g < 4294967296 ∧ (T.place g).2 = 6
theorem Tab.list_nodup {t : Tab} (h : t.ok) : t.list.Nodup := by
  rw [t.list_eq, List.Nodup, List.pairwise_map]
  refine List.Pairwise.imp_of_mem ?_ t.ps_nodup
  intro a b ha hb hab e
  have e' : t.h a = t.h b := by exact_mod_cast e
  have h1 : a < 256 := by simp only [Tab.ps, List.mem_filter, List.mem_range] at ha; have := h.2.2; omega
  have h2 : b < 256 := by simp only [Tab.ps, List.mem_filter, List.mem_range] at hb; have := h.2.2; omega
  have h3 := Tab.h_mod (t := t) h1
  have h4 := Tab.h_mod (t := t) h2
  rw [e'] at h3; omega
theorem Never.len {T : Tab} {n k : Nat} {TH GN : List Int} (h : Never T n k TH GN) : T.list.length = TH.length :=
  (List.Perm.length_eq ((List.perm_ext_iff_of_nodup (Tab.list_nodup h.good.1) h.nod).2 fun x => (h.mem x).symm))
theorem Tab.stale {t : Tab} {x : Nat} : (t.place x).2 = 6 ↔ 1 ≤ x / 256 ∧ x / 256 ≤ t.age (x % 256) ∧ (x / 256 = t.age (x % 256) → t.tk (x % 256) = false) := by
  unfold Tab.place
  split
  · rename_i h; simp; omega
  · split
    · rename_i h1 h2
      refine ⟨fun _ => ⟨by omega, by omega, fun e => ?_⟩, fun _ => rfl⟩
      rcases h2 with h2 | h2
      · omega
      · exact h2
    · rename_i h1 h2
      refine ⟨fun h => by simp at h, fun ⟨a, b, c⟩ => ?_⟩
      exfalso; apply h2
      by_cases e : x / 256 < t.age (x % 256)
      · exact .inl e
      · exact .inr (c (by omega))
theorem Tab.there_iff {t : Tab} {x : Nat} : (t.place x).2 = 0 ↔ 1 ≤ x / 256 ∧ x / 256 = t.age (x % 256) ∧ t.tk (x % 256) = true := by
  unfold Tab.place
  split
  · rename_i h; simp; omega
  · split
    · rename_i h1 h2
      refine ⟨fun h => by simp at h, fun ⟨a, b, c⟩ => ?_⟩
      rcases h2 with h2 | h2
      · omega
      · rw [c] at h2; cases h2
    · rename_i h1 h2
      refine ⟨fun _ => ⟨by omega, by omega, ?_⟩, fun _ => rfl⟩
      cases e : t.tk (x % 256)
      · exact absurd (.inr e) h2
      · rfl
theorem mem_list_nat {t : Tab} {x : Int} (h : x ∈ t.list) : ∃ g : Nat, x = g := by
  rw [t.list_eq, List.mem_map] at h
  obtain ⟨p, -, e⟩ := h; exact ⟨_, e.symm⟩
/-- Make fails: all are had. -/
theorem Never.full {T : Tab} {n k : Nat} {TH GN : List Int} (h : Never T n k TH GN) (hk : k ≤ 150) (hl : T.least = none) : T.make = (T, 0, 3) ∧ TH.length = n := by
  refine ⟨by unfold Tab.make; rw [hl], ?_⟩
  rw [← h.len, Tab.list_len]
  unfold Tab.ps
  rw [List.filter_eq_self.2, List.length_range, h.many]
  intro i hi
  have := Tab.least_nobody hl i (by simpa using hi)
  unfold Tab.free at this
  have ha := h.age i
  have : decide (T.age i < 16777215) = true := by simp; omega
  cases e : T.tk i
  · simp_all
  · rfl
theorem Never.made {T : Tab} {n k p : Nat} {TH GN : List Int} (h : Never T n k TH GN) (hk : k ≤ 150) (hl : T.least = some p) :
    T.make = (T.take p, (T.take p).h p, 0) ∧ Never (T.take p) n (k + 1) (TH ++ [((T.take p).h p : Int)]) GN ∧ ((T.take p).h p : Int) ∉ TH ∧ ((T.take p).h p : Int) ∉ GN ∧ (T.take p).h p < 4294967296 := by
  obtain ⟨h1, h2, h3, h4⟩ := Tab.least_spec hl
  have hp256 : p < 256 := Nat.lt_of_lt_of_le h1 h.good.1.2.2
  have hgt := Tab.good_take h.good h1 h3
  have hd := Tab.h_div (t := T.take p) hp256
  have hm := Tab.h_mod (t := T.take p) hp256
  have ha : (T.take p).age p = T.age p + 1 := by simp [Tab.take]
  have hne : ∀ x : Nat, x = (T.take p).h p → (T.place x).2 ≠ 0 ∧ (T.place x).2 ≠ 6 := by
    intro x hx
    constructor
    · rw [Ne, Tab.there_iff]; rintro ⟨a, b, c⟩; rw [hx, hm, hd] at b; omega
    · rw [Ne, Tab.stale]; rintro ⟨a, b, c⟩; rw [hx, hm, hd] at b; omega
  have hn1 : ((T.take p).h p : Int) ∉ TH := by
    rw [h.mem, Tab.mem_list h.good]; exact (hne _ rfl).1
  have hn2 : ((T.take p).h p : Int) ∉ GN := by
    intro hx
    obtain ⟨g, e, -, hg⟩ := h.gone _ hx
    exact (hne g (by exact_mod_cast e.symm)).2 hg
  refine ⟨by unfold Tab.make; rw [hl], ⟨hgt, h.many, fun q => ?_, ?_, fun x => ?_, fun x hx => ?_⟩, hn1, hn2, Tab.h_lt hgt.1 hp256⟩
  · have := h.age q; have := h.age p
    simp only [Tab.take]; split <;> omega
  · rw [List.nodup_append]
    refine ⟨h.nod, by simp, ?_⟩
    intro a ha b hb e
    simp at hb; subst hb; subst e; exact hn1 ha
  · rw [List.mem_append, List.mem_singleton]
    constructor
    · rintro (hx | rfl)
      · have hx := (h.mem x).1 hx
        obtain ⟨g, rfl⟩ := mem_list_nat hx
        rw [Tab.mem_list h.good] at hx
        rw [Tab.mem_list hgt]
        obtain ⟨a, b, c⟩ := Tab.there_iff.1 hx
        have : ¬ g % 256 = p := fun e => by rw [e, h2] at c; cases c
        rw [Tab.there_iff]; simp [Tab.take, this]; exact ⟨a, b, c⟩
      · rw [Tab.mem_list hgt, Tab.place_h hgt (by simp [Tab.take])]
    · intro hx
      obtain ⟨g, rfl⟩ := mem_list_nat hx
      rw [Tab.mem_list hgt] at hx
      obtain ⟨a, b, c⟩ := Tab.there_iff.1 hx
      by_cases e : g % 256 = p
      · right
        rw [e, ha] at b
        have : g = (T.take p).h p := by unfold Tab.h; rw [ha]; omega
        rw [← this]
      · left
        rw [h.mem, Tab.mem_list h.good, Tab.there_iff]
        simp [Tab.take, e] at b c
        exact ⟨a, b, c⟩
  · obtain ⟨g, rfl, hlt, hg⟩ := h.gone x hx
    refine ⟨g, rfl, hlt, ?_⟩
    rw [Tab.stale] at hg ⊢
    obtain ⟨a, b, c⟩ := hg
    by_cases e : g % 256 = p
    · simp [Tab.take, e]; rw [e] at b; omega
    · simp [Tab.take, e]; exact ⟨a, b, c⟩
theorem Never.same {T : Tab} {n k : Nat} {TH GN : List Int} (h : Never T n k TH GN) : Never T n (k + 1) TH GN :=
  ⟨h.good, h.many, fun p => Nat.le_succ_of_le (h.age p), h.nod, h.mem, h.gone⟩
/-- One is dropped. -/
theorem Never.drop {T : Tab} {n k i : Nat} {TH GN : List Int} (h : Never T n k TH GN) (hi : i < TH.length) :
    ∃ g : Nat, gd TH i = g ∧ g < 4294967296 ∧ (T.place g).2 = 0 ∧ Never (T.drop g) n (k + 1) ((TH.set i (gd TH (TH.length - 1))).take (TH.length - 1)) (GN ++ [gd TH i]) := by
  have hx := (h.mem _).1 (gd_mem hi)
  obtain ⟨g, hg⟩ := mem_list_nat hx
  rw [hg, Tab.mem_list h.good] at hx
  obtain ⟨a, b, c⟩ := Tab.there_iff.1 hx
  have hlt : g < 4294967296 := by have := h.good.1.1 (g % 256); omega
  have hdr : T.drop g = T.let (g % 256) := by unfold Tab.drop; rw [if_pos hx]
  have hgd := Tab.good_let h.good (g % 256)
  obtain ⟨s1, s2⟩ := swap_out hi h.nod
  refine ⟨g, hg, hlt, hx, ?_⟩
  rw [hdr]
  refine ⟨hgd, h.many, fun p => Nat.le_succ_of_le (h.age p), s1, fun x => ?_, fun x hx' => ?_⟩
  · rw [s2, h.mem, hg]
    constructor
    · rintro ⟨hx', hne⟩
      obtain ⟨y, rfl⟩ := mem_list_nat hx'
      rw [Tab.mem_list h.good, Tab.there_iff] at hx'
      rw [Tab.mem_list hgd, Tab.there_iff]
      obtain ⟨a', b', c'⟩ := hx'
      have : ¬ y % 256 = g % 256 := fun e => hne (by rw [e] at b'; have : y = g := by omega
                                                     rw [this])
      simp [Tab.let, this]; exact ⟨a', b', c'⟩
    · intro hx'
      obtain ⟨y, rfl⟩ := mem_list_nat hx'
      rw [Tab.mem_list hgd, Tab.there_iff] at hx'
      obtain ⟨a', b', c'⟩ := hx'
      have hyg : ¬ y % 256 = g % 256 := fun e => by simp [Tab.let, e] at c'
      simp [Tab.let, hyg] at b' c'
      refine ⟨by rw [Tab.mem_list h.good, Tab.there_iff]; exact ⟨a', b', c'⟩, fun e => hyg ?_⟩
      have : y = g := by exact_mod_cast e
      rw [this]
  · rw [List.mem_append, List.mem_singleton] at hx'
    rcases hx' with hx' | rfl
    · obtain ⟨y, rfl, hl, hy⟩ := h.gone x hx'
      refine ⟨y, rfl, hl, ?_⟩
      rw [Tab.stale] at hy ⊢
      obtain ⟨a', b', c'⟩ := hy
      refine ⟨a', b', fun e => ?_⟩
      by_cases e2 : y % 256 = g % 256
      · simp [Tab.let, e2]
      · simp [Tab.let, e2]; exact c' e
    · refine ⟨g, hg, hlt, ?_⟩
      rw [Tab.stale]
      exact ⟨a, Nat.le_of_eq b, fun _ => by simp [Tab.let]⟩
end Go.Proofs.Ytoocpofcmnnlfaa
