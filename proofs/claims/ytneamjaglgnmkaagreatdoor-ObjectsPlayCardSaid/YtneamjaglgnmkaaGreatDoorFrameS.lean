/- A struct argument by value: a field that is a slice of numbers, a field that is a number. -/
import Derived.Test.YtneamjaglgnmkaaGreatDoorFrame
import Derived.Lib.SmallJoins
namespace Tk
set_option linter.unusedVariables false
set_option linter.unusedSimpArgs false
open Go Go.RowKit Go.ChangeShapes Go.WideShapes Go.Deep
section
variable {H : Type} {enc : TypeId × Value → H} {P : Program} {W : World} {t e : TypeId} {k : IntKind}
theorem field_nums {v : Value} {y : DataW H × List MemPlace} {n : Nat} (ht : P.underlying t = some (.slice e)) (he : P.underlying e = some (.int k)) (hc : P.cellsOf e = 1)
    (hf : DataW.trod enc P W 0 (fun _ => true) true n t [v] = some y) :
    ∃ A c xs, v = .slice A (xs : List Int).length c ∧ xs.length ≤ c ∧ SlA W 0 W.heap.size k A xs := by
  rcases open_ints ht he hc hf with ⟨hcs, hx⟩ | ⟨x, l, c, zs, hcs, _, hl, hm, hz, hx, hcell, hwz⟩
  · simp at hcs
    subst hcs
    exact ⟨none, 0, [], rfl, Nat.le_refl _, ⟨Nat.le_refl _, .inl rfl⟩⟩
  · simp at hcs
    subst hcs
    have hz' : zs.length = c := by simpa using hz
    have hlen : (zs.take l).length = l := by simp; omega
    have hget : ∀ i, i < l → zs.getD i 0 = (zs.take l)[i]?.getD 0 := fun i hi => by simp [hi]
    refine ⟨some x, c, zs.take l, by rw [hlen], by omega, ⟨Nat.le_refl _, ?_⟩⟩
    by_cases h0 : l = 0
    · left; rw [h0]; rfl
    · right
      have hsp : x.spot = none := by
        have := hcell 0 (by omega)
        by_cases hs : x.spot = none
        · exact hs
        · exfalso
          rw [show x.add 0 = x from rfl] at this
          unfold World.cell? at this
          split at this
          · rw [if_pos (by cases hx' : x.spot <;> simp_all)] at this; cases this
          · cases this
      obtain ⟨b, o, sp⟩ := x
      simp only at hsp
      subst hsp
      have hb : b < W.heap.size := by
        have := hcell 0 (by omega)
        unfold World.cell? at this
        rw [show (⟨b, o, none⟩ : Addr).add 0 = ⟨b, o, none⟩ from rfl] at this
        split at this
        · rename_i hh; exact (Array.getElem?_eq_some_iff.1 hh).1
        · cases this
      refine ⟨b, o, rfl, Nat.zero_le _, hb, fun i hi => ?_⟩
      have hi' : i < l := by omega
      have := hcell i (by omega)
      have e0 : ((⟨b, o, none⟩ : Addr).add i) = ⟨b, o + i, none⟩ := by
        unfold Addr.add; by_cases hi0 : i = 0 <;> simp [hi0]
      rw [e0, hget i hi'] at this
      rw [this, List.getElem?_eq_getElem hi, Option.getD_some]
theorem field_num {v : Value} {y : DataW H × List MemPlace} {n : Nat} (ht : P.underlying t = some (.int k)) (hf : DataW.trod enc P W 0 (fun _ => true) true n t [v] = some y) : ∃ a, v = .int k a ∧ (Lit.int k a).wf = true := by
  obtain ⟨a, ea, -, wa⟩ := DataW.trod_int ht hf
  exact ⟨a, by simpa using ea, wa⟩
end
end Tk
