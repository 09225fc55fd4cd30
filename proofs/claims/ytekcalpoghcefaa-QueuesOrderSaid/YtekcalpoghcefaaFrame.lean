/- Arguments of a statement, opened to what the walks speak of. -/
import Derived.Test.YtekcalpoghcefaaBase
import Derived.ProofKit
import Derived.OpenShut
import Derived.SizedLaws
import Derived.ChangeOld
import Derived.Deep.Slices
import Derived.WideKeyArr2
namespace Tk
set_option linter.unusedVariables false
set_option linter.unusedSimpArgs false
open Go Go.RowKit Go.ChangeShapes Go.WideShapes Go.Deep
section
variable {H : Type} {enc : TypeId × Value → H} {P : Program} {W : World} {t e : TypeId} {k : IntKind}

/-- A slice of numbers that came in: its numbers, where they lie, that they fit, and how many there may be. -/
theorem open_nums {ts : List TypeId} {dsall : List (DataW H)} {j : Nat} {v : Value} {d : DataW H} {ps : List MemPlace} (ht : P.underlying t = some (.slice e)) (he : P.underlying e = some (.int k)) (hc : P.cellsOf e = 1) {B : Nat} (hB : P.bytesOf e = B)
    (hval : Value.okWide P W .any 0 t v) (_hlt : ∀ x ∈ ps, x.block < W.heap.size)
    (hsz : (DataW.weightsEach P ts dsall).all (· ≤ reachBytes) = true) (hts : ts[j]? = some t) (hds : dsall[j]? = some d)
    (h : DataW.Trod enc P W 0 (fun _ => true) true t v d ps) :
    ∃ A c xs, v = .slice A (xs : List Int).length c ∧ xs.length ≤ c ∧ c ≤ maxLen ∧ SlA W 0 W.heap.size k A xs ∧ (∀ x ∈ xs, (Lit.int k x).wf = true) ∧ xs.length * B ≤ 140737488351232 := by
  obtain ⟨A, len, cap, rfl⟩ := okWide_slice ht hval
  obtain ⟨fuel, hf⟩ := h
  rcases open_ints ht he hc hf with ⟨hcs, hx⟩ | ⟨x, l, c, zs, hcs, _, hl, hm, hz, hx, hcell, hwz⟩
  · simp [Value.cells] at hcs
    obtain ⟨rfl, rfl, rfl⟩ := hcs
    exact ⟨none, 0, [], rfl, Nat.le_refl _, by simp, ⟨Nat.le_refl _, .inl rfl⟩, by simp, by simp⟩
  · simp [Value.cells] at hcs
    obtain ⟨rfl, rfl, rfl⟩ := hcs
    have hz' : zs.length = cap := by simpa using hz
    have hlen : (zs.take len).length = len := by simp; omega
    have hget : ∀ i, i < len → zs.getD i 0 = (zs.take len)[i]?.getD 0 := fun i hi => by simp [hi]
    refine ⟨some x, cap, zs.take len, by rw [hlen], by omega, hm, ⟨Nat.le_refl _, ?_⟩, fun y hy => hwz y (List.mem_of_mem_take hy), ?_⟩
    · by_cases h0 : len = 0
      · left; rw [h0]; rfl
      · right
        have hsp : x.spot = none := by
          have := hcell 0 (by omega)
          by_cases hs : x.spot = none
          · exact hs
          · exfalso
            rw [show x.add 0 = x from rfl] at this
            unfold World.cell? at this
            split at this
            · rw [if_pos (by cases hx' : x.spot <;> simp_all)] at this; cases this
            · cases this
        obtain ⟨b, o, sp⟩ := x
        simp only at hsp
        subst hsp
        have hb : b < W.heap.size := by
          have := hcell 0 (by omega)
          unfold World.cell? at this
          rw [show (⟨b, o, none⟩ : Addr).add 0 = ⟨b, o, none⟩ from rfl] at this
          split at this
          · rename_i hh; exact (Array.getElem?_eq_some_iff.1 hh).1
          · cases this
        refine ⟨b, o, rfl, Nat.zero_le _, hb, fun i hi => ?_⟩
        have hi' : i < len := by omega
        have := hcell i (by omega)
        have e0 : ((⟨b, o, none⟩ : Addr).add i) = ⟨b, o + i, none⟩ := by
          unfold Addr.add; by_cases hi0 : i = 0 <;> simp [hi0]
        rw [e0, hget i hi'] at this
        rw [this, List.getElem?_eq_getElem hi, Option.getD_some]
    · obtain ⟨hxd, _⟩ := Prod.mk.inj hx
      subst hxd
      have z := sized_slice hsz hts hds ht
      rw [hB] at z
      have h1 : (lits (H := H) k (zs.take len)).length + (lits (H := H) k (zs.drop len)).length = zs.length := by
        simp [lits]; omega
      rw [h1] at z
      rw [hlen]
      exact Nat.le_trans (Nat.mul_le_mul_right _ (by omega)) z

theorem mapM_ints {sp : Nat → Bool} {held : Bool} (he : P.underlying e = some (.int k)) {m : Nat} {cs : List Value} : ∀ (n : Nat) (L : List Nat) (xs : List (DataW H × List MemPlace)), (∀ i ∈ L, i < cs.length) → 
    L.mapM (fun i => DataW.trod enc P W 0 sp held m e ((cs.drop (i * 1)).take 1)) = some xs →
    ∀ i ∈ L, ∃ a, cs[i]? = some (.int k a) ∧ (Lit.int k a).wf = true
  | _, [], xs, _, h => by intro i hi; cases hi
  | n, j :: L, xs, hL, h => by
    rw [List.mapM_cons] at h
    simp only [bind, Option.bind_eq_some_iff, pure, Option.some.injEq] at h
    obtain ⟨y, hy, ys, hys, rfl⟩ := h
    intro i hi
    rcases List.mem_cons.1 hi with rfl | hi
    · obtain ⟨a, ea, -, wa⟩ := DataW.trod_int he hy
      refine ⟨a, ?_, wa⟩
      have hl := hL i (by simp)
      rw [Nat.mul_one] at ea
      have : (cs.drop i).take 1 = [cs[i]] := by
        rw [List.drop_eq_getElem_cons hl]; rfl
      rw [this] at ea
      rw [List.getElem?_eq_getElem hl]
      simpa using ea
    · exact mapM_ints he n L ys (fun q hq => hL q (List.mem_cons_of_mem _ hq)) hys i hi
/-- An array of numbers that came in by value. -/
theorem open_array {n : Nat} {v : Value} {d : DataW H} {ps : List MemPlace} (ht : P.underlying t = some (.array n e)) (he : P.underlying e = some (.int k)) (hc : P.cellsOf e = 1) (hct : P.cellsOf t = n)
    (hval : Value.okWide P W .any 0 t v) (h : DataW.Trod enc P W 0 (fun _ => true) true t v d ps) :
    ∃ xs : List Int, v = .agg (xs.map (Value.int k)).toArray ∧ xs.length = n ∧ ∀ x ∈ xs, (Lit.int k x).wf = true := by
  simp only [Value.okWide, ht] at hval
  obtain ⟨cs, rfl, h2, -⟩ := hval
  rw [hct] at h2
  obtain ⟨fuel, hf⟩ := h
  cases fuel with
  | zero => simp [DataW.trod] at hf
  | succ m =>
    rw [DataW.trod_step] at hf
    unfold DataW.trodStep at hf
    simp only [ht, Value.cells] at hf
    rw [if_pos (by rw [hct]; simpa using h2)] at hf
    simp only [Option.map_eq_some_iff] at hf
    obtain ⟨ys, hy, -⟩ := hf
    rw [hc] at hy
    have hm := mapM_ints he n _ _ (fun i hi => by simpa [h2] using hi) hy
    have hall : ∀ i, i < n → ∃ a, cs.toList[i]? = some (.int k a) ∧ (Lit.int k a).wf = true := fun i hi => hm i (List.mem_range.2 hi)
    have hl : cs.toList.length = n := by simpa using h2
    refine ⟨cs.toList.map (fun v => match v with | .int _ a => a | _ => 0), ?_, by simpa using hl, ?_⟩
    · congr 1
      apply Array.ext'
      simp only [List.map_map]
      apply List.ext_getElem
      · simp
      · intro i h1 h3
        obtain ⟨a, ha, -⟩ := hall i (by simpa [h2] using h1)
        rw [List.getElem?_eq_getElem h1] at ha
        simp only [List.getElem_map, Function.comp]
        rw [Option.some.inj ha]
    · intro x hx
      rw [List.mem_map] at hx
      obtain ⟨v, hv, rfl⟩ := hx
      obtain ⟨i, hi, rfl⟩ := List.mem_iff_getElem.1 hv
      obtain ⟨a, ha, hw⟩ := hall i (by omega)
      rw [List.getElem?_eq_getElem hi] at ha
      rw [Option.some.inj ha]; exact hw
end
end Tk
