/- timekeeperref08: the reference's table: its state, New. -/
import Derived.Test.YtabkkeeedlnmnaaDoorHan4
import Derived.BigQuiet
namespace Go.Proofs.YtabkkeeedlnmnaaDoor
open Go.RowKit Go.Shelf Tk
set_option linter.unusedVariables false
set_option linter.unusedSimpArgs false
/-- Nobody has a place behind the last one, and its generation is none. -/
def Tab.inn (t : Tab) : Prop := t.ok ∧ ∀ i, t.many ≤ i → t.age i = 0
theorem tab0_inn {n : Nat} (h1 : 1 ≤ n) (h2 : n ≤ 256) : (tab0 n).inn := ⟨tab0_ok h1 h2, fun i h => rfl⟩
theorem Tab.inn_make {t : Tab} (h : t.inn) : t.make.1.inn := by
  refine ⟨Tab.ok_make h.1, ?_⟩
  unfold Tab.make
  cases hl : t.least with
  | none => exact h.2
  | some k =>
    have := (Tab.least_spec hl).1
    intro i hi
    have hi' : t.many ≤ i := hi
    show (if i = k then t.age k + 1 else t.age i) = 0
    rw [if_neg (by omega)]; exact h.2 i hi'
theorem Tab.inn_drop {t : Tab} (h : t.inn) (x : Nat) : (t.drop x).inn := by
  refine ⟨Tab.ok_drop h.1 x, ?_⟩
  unfold Tab.drop
  split
  · exact h.2
  · exact h.2
theorem Tab.drop_many (t : Tab) (x : Nat) : (t.drop x).many = t.many := by unfold Tab.drop; split <;> rfl
theorem Tab.make_many (t : Tab) : t.make.1.many = t.many := by unfold Tab.make; split <;> rfl
namespace RefH
def av (t : Tab) (i : Nat) : Value := .int .u32 (t.age i)
def dv (t : Tab) (i : Nat) : Value := .bool (!t.tk i)
def hv (M1 M2 n : Nat) (i : Nat) : Value := if i = 0 then .slice (some ⟨M1, 0, none⟩) n n else .slice (some ⟨M2, 0, none⟩) n n
/-- The reference's table: block v.1 has the generations, block v.2 whether they are dropped. -/
structure RQ (w : World) (R : Nat) (v : Nat × Nat) (t : Tab) : Prop where
  hdr : Arr w R 2 (hv v.1 v.2 t.many)
  age : Arr w v.1 t.many (av t)
  drp : Arr w v.2 t.many (dv t)
  ne : v.1 ≠ R ∧ v.2 ≠ R ∧ v.1 ≠ v.2
def OwnQ (R : Nat) (v : Nat × Nat) (k : Nat) : Prop := k = R ∨ k = v.1 ∨ k = v.2
variable {w w' : World} {R : Nat} {v : Nat × Nat} {t : Tab}
theorem RQ.fr {S : Nat → Prop} (h : RQ w R v t) (g : Fr S w w') (hs : ∀ k, OwnQ R v k → ¬ S k) : RQ w' R v t :=
  ⟨h.hdr.fr g (hs _ (.inl rfl)), h.age.fr g (hs _ (.inr (.inl rfl))), h.drp.fr g (hs _ (.inr (.inr rfl))), h.ne⟩
theorem RQ.keep (h : RQ w R v t) (g : w.grownBy w' none) : RQ w' R v t := h.fr (S := fun _ => False) (Fr.of_grown g (by simp)) (fun _ _ => id)
theorem RQ.lt (h : RQ w R v t) : ∀ k, OwnQ R v k → k < w.heap.size := by
  rintro k (rfl | rfl | rfl)
  · exact h.hdr.lt
  · exact h.age.lt
  · exact h.drp.lt
def Post (w : World) (R : Nat) (v : Nat × Nat) (t' : Tab) (w' : World) : Prop := RQ w' R v t' ∧ Fr (OwnQ R v) w w'
theorem RQ.same (h : RQ w R v t) (g : w.grownBy w' none) : Post w R v t w' := ⟨h.keep g, Fr.of_grown g (by simp)⟩
theorem RQ.c0 (h : RQ w R v t) : w.cell? ⟨R, 0, none⟩ = some (.slice (some ⟨v.1, 0, none⟩) t.many t.many) := h.hdr.cell (i := 0) (by decide)
theorem RQ.c1 (h : RQ w R v t) : w.cell? ⟨R, 1, none⟩ = some (.slice (some ⟨v.2, 0, none⟩) t.many t.many) := h.hdr.cell (i := 1) (by decide)
/-- A place's next handle is given. -/
theorem RQ.take (h : RQ w R v t) {k : Nat} (hk : k < t.many) : RQ ((w.setCell ⟨v.1, k, none⟩ (.int .u32 ((t.age k : Int) + 1))).setCell ⟨v.2, k, none⟩ (.bool false)) R v (t.take k) := by
  obtain ⟨n1, n2, n3⟩ := h.ne
  refine ⟨(h.hdr.kept (grownBy_setCell _ _ _ _) (by simpa using n1)).kept (grownBy_setCell _ _ _ _) (by simpa using n2), ?_, ?_, h.ne⟩
  · refine ((h.age.set hk (.int .u32 ((t.age k : Int) + 1))).kept (grownBy_setCell _ _ _ _) (by simpa using fun e => n3 e.symm)).congr fun i hi => ?_
    unfold av Tab.take
    by_cases e : i = k
    · subst e; simp
    · simp [e]
  · refine ((h.drp.kept (grownBy_setCell _ v.1 k (.int .u32 ((t.age k : Int) + 1))) (by simpa using n3)).set hk (.bool false)).congr fun i hi => ?_
    unfold dv Tab.take
    by_cases e : i = k
    · subst e; simp
    · simp [e]
theorem RQ.post_take (h : RQ w R v t) {k : Nat} (hk : k < t.many) : Post w R v (t.take k) ((w.setCell ⟨v.1, k, none⟩ (.int .u32 ((t.age k : Int) + 1))).setCell ⟨v.2, k, none⟩ (.bool false)) :=
  ⟨h.take hk, ((Fr.refl _ w).setCell ⟨v.1, k, none⟩ (fun _ => .inr (.inl rfl)) _).setCell ⟨v.2, k, none⟩ (fun _ => .inr (.inr rfl)) _⟩
/-- A place's handle is dropped. -/
theorem RQ.let (h : RQ w R v t) {k : Nat} (hk : k < t.many) : Post w R v (t.let k) (w.setCell ⟨v.2, k, none⟩ (.bool true)) := by
  obtain ⟨n1, n2, n3⟩ := h.ne
  refine ⟨⟨h.hdr.kept (grownBy_setCell _ _ _ _) (by simpa using n2), (h.age.kept (grownBy_setCell _ _ _ _) (by simpa using fun e => n3 e.symm)).congr fun i hi => rfl, ?_, h.ne⟩, (Fr.refl _ w).setCell ⟨v.2, k, none⟩ (fun _ => .inr (.inr rfl)) _⟩
  refine (h.drp.set hk (.bool true)).congr fun i hi => ?_
  unfold dv Tab.let
  by_cases e : i = k
  · subst e; simp
  · simp [e]
theorem arr_of_owns {w : World} {base g n : Nat} {e : TypeId} {vs : List Value} {f : Nat → Value} (h : w.ownsRow base e 1 (.slice (some ⟨g, 0, none⟩) n n) n vs) (hf : ∀ i, i < n → vs[i]? = some (f i)) : Arr w g n f ∧ base ≤ g := by
  obtain ⟨hl, h2⟩ := h
  rcases h2 with ⟨h', _⟩ | ⟨g', cap', cur, h', hb, hg, hnc, hcm, hcs, htake⟩
  · cases h'
  · cases h'
    have hc : cur.size = n := by simpa using hcs
    refine ⟨⟨cur, e, hg, hc, fun i hi => ?_⟩, hb⟩
    rw [← hf i hi, ← htake, List.getElem?_take, if_pos (by omega)]
    simp
theorem made_at (v : Value) (hv : v.cells = #[v]) (n : Nat) {i : Nat} (hi : i < n) : (madeCells v.cells (n * 1)).toList[i]? = some v := by
  rw [hv]
  simp [madeCells, hi, Nat.mod_one]
end RefH
end Go.Proofs.YtabkkeeedlnmnaaDoor
