/- Arguments of a statement, opened to what the walks speak of. -/
import Derived.Test.YtneamjaglgnmkaaGreatDoorRws
import Derived.ProofKit
import Derived.OpenShut
import Derived.SizedLaws
import Derived.ChangeOld
import Derived.Deep.Slices
import Derived.WideKeyArr2
namespace Tk
set_option linter.unusedVariables false
set_option linter.unusedSimpArgs false
open Go Go.RowKit Go.ChangeShapes Go.WideShapes Go.Deep
section
variable {H : Type} {enc : TypeId × Value → H} {P : Program} {W : World} {t e : TypeId} {k : IntKind}

/-- A slice of numbers that came in: its numbers, where they lie, that they fit, and how many there may be. -/
theorem open_nums {ts : List TypeId} {dsall : List (DataW H)} {j : Nat} {v : Value} {d : DataW H} {ps : List MemPlace} (ht : P.underlying t = some (.slice e)) (he : P.underlying e = some (.int k)) (hc : P.cellsOf e = 1) {B : Nat} (hB : P.bytesOf e = B)
    (hval : Value.okWide P W .any 0 t v) (_hlt : ∀ x ∈ ps, x.block < W.heap.size)
    (hsz : (DataW.weightsEach P ts dsall).all (· ≤ reachBytes) = true) (hts : ts[j]? = some t) (hds : dsall[j]? = some d)
    (h : DataW.Trod enc P W 0 (fun _ => true) true t v d ps) :
    ∃ A c xs, v = .slice A (xs : List Int).length c ∧ xs.length ≤ c ∧ c ≤ maxLen ∧ SlA W 0 W.heap.size k A xs ∧ (∀ x ∈ xs, (Lit.int k x).wf = true) ∧ xs.length * B ≤ 140737488351232 := by
  obtain ⟨A, len, cap, rfl⟩ := okWide_slice ht hval
  obtain ⟨fuel, hf⟩ := h
  rcases open_ints ht he hc hf with ⟨hcs, hx⟩ | ⟨x, l, c, zs, hcs, _, hl, hm, hz, hx, hcell, hwz⟩
  · simp [Value.cells] at hcs
    obtain ⟨rfl, rfl, rfl⟩ := hcs
    exact ⟨none, 0, [], rfl, Nat.le_refl _, by simp, ⟨Nat.le_refl _, .inl rfl⟩, by simp, by simp⟩
  · simp [Value.cells] at hcs
    obtain ⟨rfl, rfl, rfl⟩ := hcs
    have hz' : zs.length = cap := by simpa using hz
    have hlen : (zs.take len).length = len := by simp; omega
    have hget : ∀ i, i < len → zs.getD i 0 = (zs.take len)[i]?.getD 0 := fun i hi => by simp [hi]
    refine ⟨some x, cap, zs.take len, by rw [hlen], by omega, hm, ⟨Nat.le_refl _, ?_⟩, fun y hy => hwz y (List.mem_of_mem_take hy), ?_⟩
    · by_cases h0 : len = 0
      · left; rw [h0]; rfl
      · right
        have hsp : x.spot = none := by
          have := hcell 0 (by omega)
          by_cases hs : x.spot = none
          · exact hs
          · exfalso
            rw [show x.add 0 = x from rfl] at this
            unfold World.cell? at this
            split at this
            · rw [if_pos (by cases hx' : x.spot <;> simp_all)] at this; cases this
            · cases this
        obtain ⟨b, o, sp⟩ := x
        simp only at hsp
        subst hsp
        have hb : b < W.heap.size := by
          have := hcell 0 (by omega)
          unfold World.cell? at this
          rw [show (⟨b, o, none⟩ : Addr).add 0 = ⟨b, o, none⟩ from rfl] at this
          split at this
          · rename_i hh; exact (Array.getElem?_eq_some_iff.1 hh).1
          · cases this
        refine ⟨b, o, rfl, Nat.zero_le _, hb, fun i hi => ?_⟩
        have hi' : i < len := by omega
        have := hcell i (by omega)
        have e0 : ((⟨b, o, none⟩ : Addr).add i) = ⟨b, o + i, none⟩ := by
          unfold Addr.add; by_cases hi0 : i = 0 <;> simp [hi0]
        rw [e0, hget i hi'] at this
        rw [this, List.getElem?_eq_getElem hi, Option.getD_some]
    · obtain ⟨hxd, _⟩ := Prod.mk.inj hx
      subst hxd
      have z := sized_slice hsz hts hds ht
      rw [hB] at z
      have h1 : (lits (H := H) k (zs.take len)).length + (lits (H := H) k (zs.drop len)).length = zs.length := by
        simp [lits]; omega
      rw [h1] at z
      rw [hlen]
      exact Nat.le_trans (Nat.mul_le_mul_right _ (by omega)) z

theorem mapM_ints {sp : Nat → Bool} {held : Bool} (he : P.underlying e = some (.int k)) {m : Nat} {cs : List Value} : ∀ (n : Nat) (L : List Nat) (xs : List (DataW H × List MemPlace)), (∀ i ∈ L, i < cs.length) → 
    L.mapM (fun i => DataW.trod enc P W 0 sp held m e ((cs.drop (i * 1)).take 1)) = some xs →
    ∀ i ∈ L, ∃ a, cs[i]? = some (.int k a) ∧ (Lit.int k a).wf = true
  | _, [], xs, _, h => by intro i hi; cases hi
  | n, j :: L, xs, hL, h => by
    rw [List.mapM_cons] at h
    simp only [bind, Option.bind_eq_some_iff, pure, Option.some.injEq] at h
    obtain ⟨y, hy, ys, hys, rfl⟩ := h
    intro i hi
    rcases List.mem_cons.1 hi with rfl | hi
    · obtain ⟨a, ea, -, wa⟩ := DataW.trod_int he hy
      refine ⟨a, ?_, wa⟩
      have hl := hL i (by simp)
      rw [Nat.mul_one] at ea
      have : (cs.drop i).take 1 = [cs[i]] := by
        rw [List.drop_eq_getElem_cons hl]; rfl
      rw [this] at ea
      rw [List.getElem?_eq_getElem hl]
      simpa using ea
    · exact mapM_ints he n L ys (fun q hq => hL q (List.mem_cons_of_mem _ hq)) hys i hi
/-- An array of numbers that came in by value. -/
theorem open_array {n : Nat} {v : Value} {d : DataW H} {ps : List MemPlace} (ht : P.underlying t = some (.array n e)) (he : P.underlying e = some (.int k)) (hc : P.cellsOf e = 1) (hct : P.cellsOf t = n)
    (hval : Value.okWide P W .any 0 t v) (h : DataW.Trod enc P W 0 (fun _ => true) true t v d ps) :
    ∃ xs : List Int, v = .agg (xs.map (Value.int k)).toArray ∧ xs.length = n ∧ ∀ x ∈ xs, (Lit.int k x).wf = true := by
  simp only [Value.okWide, ht] at hval
  obtain ⟨cs, rfl, h2, -⟩ := hval
  rw [hct] at h2
  obtain ⟨fuel, hf⟩ := h
  cases fuel with
  | zero => simp [DataW.trod] at hf
  | succ m =>
    rw [DataW.trod_step] at hf
    unfold DataW.trodStep at hf
    simp only [ht, Value.cells] at hf
    rw [if_pos (by rw [hct]; simpa using h2)] at hf
    simp only [Option.map_eq_some_iff] at hf
    obtain ⟨ys, hy, -⟩ := hf
    rw [hc] at hy
    have hm := mapM_ints he n _ _ (fun i hi => by simpa [h2] using hi) hy
    have hall : ∀ i, i < n → ∃ a, cs.toList[i]? = some (.int k a) ∧ (Lit.int k a).wf = true := fun i hi => hm i (List.mem_range.2 hi)
    have hl : cs.toList.length = n := by simpa using h2
    refine ⟨cs.toList.map (fun v => match v with | .int _ a => a | _ => 0), ?_, by simpa using hl, ?_⟩
    · congr 1
      apply Array.ext'
      simp only [List.map_map]
      apply List.ext_getElem
      · simp
      · intro i h1 h3
        obtain ⟨a, ha, -⟩ := hall i (by simpa [h2] using h1)
        rw [List.getElem?_eq_getElem h1] at ha
        simp only [List.getElem_map, Function.comp]
        rw [Option.some.inj ha]
    · intro x hx
      rw [List.mem_map] at hx
      obtain ⟨v, hv, rfl⟩ := hx
      obtain ⟨i, hi, rfl⟩ := List.mem_iff_getElem.1 hv
      obtain ⟨a, ha, hw⟩ := hall i (by omega)
      rw [List.getElem?_eq_getElem hi] at ha
      rw [Option.some.inj ha]; exact hw
/-- Are these the fields: numbers of these kinds, a cell each? -/
def fieldsOk (P : Program) (fs : Array Field) (ks : List IntKind) : Bool :=
  fs.size == ks.length && (List.range ks.length).all fun j => match fs[j]? with
    | some f => f.offset == j && P.cellsOf f.type == 1 && (match P.underlying f.type with | some (.int k) => k == ks.getD j .u8 | _ => false)
    | none => false
theorem fieldsOk_at {fs : Array Field} {ks : List IntKind} (h : fieldsOk P fs ks = true) {j : Nat} (hj : j < ks.length) :
    ∃ f, fs[j]? = some f ∧ f.offset = j ∧ P.cellsOf f.type = 1 ∧ P.underlying f.type = some (.int (ks.getD j .u8)) := by
  unfold fieldsOk at h
  rw [Bool.and_eq_true, List.all_eq_true] at h
  have := h.2 j (List.mem_range.2 hj)
  split at this
  · rename_i f hf
    refine ⟨f, hf, ?_⟩
    rw [Bool.and_eq_true, Bool.and_eq_true, beq_iff_eq, beq_iff_eq] at this
    obtain ⟨⟨h1, h2⟩, h3⟩ := this
    refine ⟨h1, h2, ?_⟩
    split at h3
    · rename_i k hk
      rw [hk, eq_of_beq h3]
    · cases h3
  · cases this
/-- A slice of rows of numbers that came in. -/
theorem open_rows {ts : List TypeId} {dsall : List (DataW H)} {j : Nat} {v : Value} {d : DataW H} {ps : List MemPlace} {fs : Array Field} {ks : List IntKind} (ht : P.underlying t = some (.slice e)) (he : P.underlying e = some (.struct fs)) (hc : P.cellsOf e = ks.length) (hfs : fieldsOk P fs ks = true) {B : Nat} (hB : P.bytesOf e = B)
    (hval : Value.okWide P W .any 0 t v) (hk0 : 0 < ks.length)
    (hsz : (DataW.weightsEach P ts dsall).all (· ≤ reachBytes) = true) (hts : ts[j]? = some t) (hds : dsall[j]? = some d)
    (h : DataW.Trod enc P W 0 (fun _ => true) true t v d ps) :
    ∃ A n c R, v = .slice A n c ∧ n ≤ c ∧ c ≤ maxLen ∧ RowsA W ks A n R ∧ (∀ i, i < n → ∀ q, q < ks.length → (Lit.int (ks.getD q .u8) (R i q)).wf = true) ∧ n * B ≤ 140737488351232 := by
  obtain ⟨A, len, cap, rfl⟩ := okWide_slice ht hval
  obtain ⟨fuel, hf⟩ := h
  rcases open_slice ht hf with ⟨hcs, hx⟩ | ⟨a, l, c, m, n, D, Pl, hcs, _, hl, hm, hmm, hx, hall⟩
  · simp [Value.cells] at hcs
    obtain ⟨rfl, rfl, rfl⟩ := hcs
    exact ⟨none, 0, 0, fun _ _ => 0, rfl, Nat.le_refl _, by simp, .inl rfl, fun i hi => absurd hi (Nat.not_lt_zero _), by simp⟩
  · simp [Value.cells] at hcs
    obtain ⟨rfl, rfl, rfl⟩ := hcs
    simp only [if_true] at hmm
    subst hmm
    have each : ∀ i, i < m → ∃ r : Nat → Int, ∀ q, q < ks.length → W.cell? ((a.add (i * ks.length)).add q) = some (.int (ks.getD q .u8) (r q)) ∧ (Lit.int (ks.getD q .u8) (r q)).wf = true := by
      intro i hi
      obtain ⟨cs', h1, h2⟩ := hall i hi
      rw [hc] at h1
      obtain ⟨_, hlen, hcell⟩ := World.cells?_some h1
      obtain ⟨xs, k, hk, hxy, _, hxl, hfld⟩ := DataW.trod_struct he h2
      refine choose_lt (α := Int) (p := fun q x => W.cell? ((a.add (i * ks.length)).add q) = some (.int (ks.getD q .u8) x) ∧ (Lit.int (ks.getD q .u8) x).wf = true) fun q hq => ?_
      obtain ⟨f, e1, e2, e3, e4⟩ := fieldsOk_at hfs hq
      have g := hfld q f e1
      rw [e2, e3] at g
      have hqs : q < cs'.length := by rw [hlen]; exact hq
      have e5 : (cs'.drop q).take 1 = [cs'[q]] := by rw [List.drop_eq_getElem_cons hqs]; rfl
      rw [e5] at g
      have hxq : q < xs.length := by
        rw [hxl]; exact (Array.getElem?_eq_some_iff.1 e1).1
      rw [List.getElem?_eq_getElem hxq] at g
      obtain ⟨x, hx1, -, hx3⟩ := DataW.trod_int e4 g
      refine ⟨x, ?_, hx3⟩
      rw [hcell q hq, List.getElem?_eq_getElem hqs]
      rw [List.singleton_inj.1 hx1]
    obtain ⟨R, hR⟩ := choose_lt (α := Nat → Int) each
    refine ⟨some a, len, m, R, rfl, hl, hm, ?_, fun i hi q hq => (hR i (by omega) q hq).2, ?_⟩
    · by_cases h0 : len = 0
      · exact .inl h0
      · · right
          have h00 := (hR 0 (by omega) 0 (by omega)).1
          have hsp : a.spot = none := by
            by_cases hs : a.spot = none
            · exact hs
            · exfalso
              have e0 : (a.add (0 * ks.length)).add 0 = a := by simp [Addr.add]
              rw [e0] at h00
              unfold World.cell? at h00
              split at h00
              · rw [if_pos (by cases hx' : a.spot <;> simp_all)] at h00; cases h00
              · cases h00
          obtain ⟨b, o, sp⟩ := a
          simp only at hsp
          subst hsp
          have hb : b < W.heap.size := by
            have e0 : ((⟨b, o, none⟩ : Addr).add (0 * ks.length)).add 0 = ⟨b, o, none⟩ := by simp [Addr.add]
            rw [e0] at h00
            unfold World.cell? at h00
            split at h00
            · rename_i hh; exact (Array.getElem?_eq_some_iff.1 hh).1
            · cases h00
          refine ⟨b, o, rfl, hb, fun i hi q hq => ?_⟩
          have := (hR i (by omega) q hq).1
          have e0 : ((⟨b, o, none⟩ : Addr).add (i * ks.length)).add q = ⟨b, o + i * ks.length + q, none⟩ := by
            rw [add_add, show o + i * ks.length + q = o + (i * ks.length + q) by omega]
            unfold Addr.add
            by_cases hi0 : i * ks.length + q = 0
            · rw [if_pos hi0, hi0, Nat.add_zero]
            · rw [if_neg hi0]
          rw [← e0]; exact this
    · obtain ⟨hxd, _⟩ := Prod.mk.inj hx
      subst hxd
      have z := sized_slice hsz hts hds ht
      rw [hB] at z
      simp only [List.length_map, List.length_range] at z
      exact Nat.le_trans (Nat.mul_le_mul_right _ (by omega)) z

end
end Tk
