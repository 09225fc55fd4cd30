/- Arguments of a statement, opened to what the walks speak of. -/
import Derived.Test.YteiepkkebjbepaaBase
import Derived.ProofKit
import Derived.OpenShut
import Derived.SizedLaws
import Derived.ChangeOld
import Derived.Deep.Slices
namespace Tk
open Go Go.RowKit Go.ChangeShapes Go.WideShapes Go.Deep
section
variable {H : Type} {enc : TypeId × Value → H} {P : Program} {W : World} {t e : TypeId} {k : IntKind}

/-- A slice of numbers that came in: its numbers, where they lie, that they fit, and how many there may be. -/
theorem open_nums {ts : List TypeId} {dsall : List (DataW H)} {j : Nat} {v : Value} {d : DataW H} {ps : List MemPlace} (ht : P.underlying t = some (.slice e)) (he : P.underlying e = some (.int k)) (hc : P.cellsOf e = 1) {B : Nat} (hB : P.bytesOf e = B)
    (hval : Value.okWide P W .any 0 t v) (_hlt : ∀ x ∈ ps, x.block < W.heap.size)
    (hsz : (DataW.weightsEach P ts dsall).all (· ≤ reachBytes) = true) (hts : ts[j]? = some t) (hds : dsall[j]? = some d)
    (h : DataW.Trod enc P W 0 (fun _ => true) true t v d ps) :
    ∃ A c xs, v = .slice A (xs : List Int).length c ∧ xs.length ≤ c ∧ c ≤ maxLen ∧ SlA W 0 W.heap.size k A xs ∧ (∀ x ∈ xs, (Lit.int k x).wf = true) ∧ xs.length * B ≤ 140737488351232 := by
  obtain ⟨A, len, cap, rfl⟩ := okWide_slice ht hval
  obtain ⟨fuel, hf⟩ := h
  rcases open_ints ht he hc hf with ⟨hcs, hx⟩ | ⟨x, l, c, zs, hcs, _, hl, hm, hz, hx, hcell, hwz⟩
  · simp [Value.cells] at hcs
    obtain ⟨rfl, rfl, rfl⟩ := hcs
    exact ⟨none, 0, [], rfl, Nat.le_refl _, by simp, ⟨Nat.le_refl _, .inl rfl⟩, by simp, by simp⟩
  · simp [Value.cells] at hcs
    obtain ⟨rfl, rfl, rfl⟩ := hcs
    have hz' : zs.length = cap := by simpa using hz
    have hlen : (zs.take len).length = len := by simp; omega
    have hget : ∀ i, i < len → zs.getD i 0 = (zs.take len)[i]?.getD 0 := fun i hi => by simp [hi]
    refine ⟨some x, cap, zs.take len, by rw [hlen], by omega, hm, ⟨Nat.le_refl _, ?_⟩, fun y hy => hwz y (List.mem_of_mem_take hy), ?_⟩
    · by_cases h0 : len = 0
      · left; rw [h0]; rfl
      · right
        have hsp : x.spot = none := by
          have := hcell 0 (by omega)
          by_cases hs : x.spot = none
          · exact hs
          · exfalso
            rw [show x.add 0 = x from rfl] at this
            unfold World.cell? at this
            split at this
            · rw [if_pos (by cases hx' : x.spot <;> simp_all)] at this; cases this
            · cases this
        obtain ⟨b, o, sp⟩ := x
        simp only at hsp
        subst hsp
        have hb : b < W.heap.size := by
          have := hcell 0 (by omega)
          unfold World.cell? at this
          rw [show (⟨b, o, none⟩ : Addr).add 0 = ⟨b, o, none⟩ from rfl] at this
          split at this
          · rename_i hh; exact (Array.getElem?_eq_some_iff.1 hh).1
          · cases this
        refine ⟨b, o, rfl, Nat.zero_le _, hb, fun i hi => ?_⟩
        have hi' : i < len := by omega
        have := hcell i (by omega)
        have e0 : ((⟨b, o, none⟩ : Addr).add i) = ⟨b, o + i, none⟩ := by
          unfold Addr.add; by_cases hi0 : i = 0 <;> simp [hi0]
        rw [e0, hget i hi'] at this
        rw [this, List.getElem?_eq_getElem hi, Option.getD_some]
    · obtain ⟨hxd, _⟩ := Prod.mk.inj hx
      subst hxd
      have z := sized_slice hsz hts hds ht
      rw [hB] at z
      have h1 : (lits (H := H) k (zs.take len)).length + (lits (H := H) k (zs.drop len)).length = zs.length := by
        simp [lits]; omega
      rw [h1] at z
      rw [hlen]
      exact Nat.le_trans (Nat.mul_le_mul_right _ (by omega)) z
end
end Tk
