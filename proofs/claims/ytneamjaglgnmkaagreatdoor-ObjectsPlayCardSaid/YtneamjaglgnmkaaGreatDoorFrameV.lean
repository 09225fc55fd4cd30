/- A slice of rows of numbers and bools that came in, opened. -/
import Derived.Test.YtneamjaglgnmkaaGreatDoorFrame
import Derived.Test.YtneamjaglgnmkaaGreatDoorVrw
namespace Tk
set_option linter.unusedVariables false
set_option linter.unusedSimpArgs false
open Go Go.RowKit Go.ChangeShapes Go.WideShapes Go.Deep
section
variable {H : Type} {enc : TypeId × Value → H} {P : Program} {W : World} {t e : TypeId} {k : IntKind}
/-- Are these the type's cells? -/
def flatOk (P : Program) : Nat → TypeId → List (Option IntKind) → Bool
  | 0, _, _ => false
  | f + 1, t, ks => match P.underlying t with
    | some (.int k) => ks == [some k]
    | some .bool => ks == [none]
    | some (.struct fs) => (List.range ks.length).all fun j => (List.range fs.size).any fun i => match fs[i]? with
      | some fl => decide (fl.offset ≤ j) && decide (j < fl.offset + P.cellsOf fl.type) && flatOk P f fl.type ((ks.drop fl.offset).take (P.cellsOf fl.type))
      | none => false
    | _ => false
theorem flat_fit {base : Nat} {sp : Nat → Bool} {held : Bool} : ∀ (f : Nat) (t : TypeId) (ks : List (Option IntKind)) (cs : List Value) (x : DataW H × List MemPlace) (fuel : Nat), flatOk P f t ks = true →
    DataW.trod enc P W base sp held fuel t cs = some x → ∀ j, j < ks.length → ∃ v, cs[j]? = some v ∧ Fit (ks.getD j none) v := by
  intro f
  induction f with
  | zero => intro t ks cs x fuel h; cases h
  | succ f ih =>
    intro t ks cs x fuel h hx j hj
    unfold flatOk at h
    split at h
    · rename_i k hk
      have := eq_of_beq h
      subst this
      obtain ⟨y, hy1, -, hy3⟩ := DataW.trod_int hk hx
      have : j = 0 := by simpa using hj
      subst this
      exact ⟨_, by rw [hy1]; rfl, y, rfl, hy3⟩
    · rename_i hk
      have := eq_of_beq h
      subst this
      obtain ⟨y, hy1, -⟩ := DataW.trod_bool hk hx
      have : j = 0 := by simpa using hj
      subst this
      exact ⟨_, by rw [hy1]; rfl, y, rfl⟩
    · rename_i fs hk
      obtain ⟨xs, m, -, -, -, hxl, hfld⟩ := DataW.trod_struct hk hx
      rw [List.all_eq_true] at h
      have h1 := h j (List.mem_range.2 hj)
      rw [List.any_eq_true] at h1
      obtain ⟨i, hi, h2⟩ := h1
      split at h2
      · rename_i fl hfl
        rw [Bool.and_eq_true, Bool.and_eq_true, decide_eq_true_iff, decide_eq_true_iff] at h2
        obtain ⟨⟨o1, o2⟩, h3⟩ := h2
        have g := hfld i fl hfl
        have hxi : i < xs.length := by rw [hxl]; exact (Array.getElem?_eq_some_iff.1 hfl).1
        rw [List.getElem?_eq_getElem hxi] at g
        obtain ⟨v, hv1, hv2⟩ := ih _ _ _ _ _ h3 g (j - fl.offset) (by simp; omega)
        refine ⟨v, ?_, ?_⟩
        · rw [List.getElem?_take_of_lt (by omega), List.getElem?_drop] at hv1
          rw [← hv1]; congr 1; omega
        · rw [List.getD_eq_getElem?_getD, List.getElem?_take_of_lt (by omega), List.getElem?_drop] at hv2
          rw [List.getD_eq_getElem?_getD]
          rw [show fl.offset + (j - fl.offset) = j by omega] at hv2
          exact hv2
      · cases h2
    · cases h
/-- A slice of rows of numbers and bools that came in. -/
theorem open_vrows {ts : List TypeId} {dsall : List (DataW H)} {j : Nat} {v : Value} {d : DataW H} {ps : List MemPlace} {ks : List (Option IntKind)} (ht : P.underlying t = some (.slice e)) (hfl : flatOk P 8 e ks = true) (hc : P.cellsOf e = ks.length) {B : Nat} (hB : P.bytesOf e = B)
    (hval : Value.okWide P W .any 0 t v) (hk0 : 0 < ks.length)
    (hsz : (DataW.weightsEach P ts dsall).all (· ≤ reachBytes) = true) (hts : ts[j]? = some t) (hds : dsall[j]? = some d)
    (h : DataW.Trod enc P W 0 (fun _ => true) true t v d ps) :
    ∃ A n c V, v = .slice A n c ∧ n ≤ c ∧ c ≤ maxLen ∧ VRow W ks.length A n V ∧ (∀ i, i < n → ∀ q, q < ks.length → Fit (ks.getD q none) (V i q)) ∧ n * B ≤ 140737488351232 := by
  obtain ⟨A, len, cap, rfl⟩ := okWide_slice ht hval
  obtain ⟨fuel, hf⟩ := h
  rcases open_slice ht hf with ⟨hcs, hx⟩ | ⟨a, l, c, m, n, D, Pl, hcs, _, hl, hm, hmm, hx, hall⟩
  · simp [Value.cells] at hcs
    obtain ⟨rfl, rfl, rfl⟩ := hcs
    exact ⟨none, 0, 0, fun _ _ => .bool false, rfl, Nat.le_refl _, by simp, .inl rfl, fun i hi => absurd hi (Nat.not_lt_zero _), by simp⟩
  · simp [Value.cells] at hcs
    obtain ⟨rfl, rfl, rfl⟩ := hcs
    simp only [if_true] at hmm
    subst hmm
    have each : ∀ i, i < m → ∃ r : Nat → Value, ∀ q, q < ks.length → W.cell? ((a.add (i * ks.length)).add q) = some (r q) ∧ Fit (ks.getD q none) (r q) := by
      intro i hi
      obtain ⟨cs', h1, h2⟩ := hall i hi
      rw [hc] at h1
      obtain ⟨_, hlen, hcell⟩ := World.cells?_some h1
      refine ⟨fun q => cs'.getD q (.bool false), fun q hq => ?_⟩
      obtain ⟨v, hv1, hv2⟩ := flat_fit 8 e ks cs' _ _ hfl h2 q hq
      have e1 : cs'.getD q (.bool false) = v := by rw [List.getD_eq_getElem?_getD, hv1]; rfl
      exact ⟨by rw [hcell q hq, hv1]; show some v = some (cs'.getD q (.bool false)); rw [e1], by show Fit _ (cs'.getD q (.bool false)); rw [e1]; exact hv2⟩
    have : ∃ R : Nat → Nat → Value, ∀ i, i < m → ∀ q, q < ks.length → W.cell? ((a.add (i * ks.length)).add q) = some (R i q) ∧ Fit (ks.getD q none) (R i q) := by
      refine ⟨fun i => if h : i < m then Classical.choose (each i h) else fun _ => .bool false, fun i hi => ?_⟩
      simp only [dif_pos hi]
      exact Classical.choose_spec (each i hi)
    obtain ⟨R, hR⟩ := this
    refine ⟨some a, len, m, R, rfl, hl, hm, ?_, fun i hi q hq => (hR i (by omega) q hq).2, ?_⟩
    · by_cases h0 : len = 0
      · exact .inl h0
      · right
        have h00 := (hR 0 (by omega) 0 (by omega)).1
        have hsp : a.spot = none := by
          by_cases hs : a.spot = none
          · exact hs
          · exfalso
            have e0 : (a.add (0 * ks.length)).add 0 = a := by simp [Addr.add]
            rw [e0] at h00
            unfold World.cell? at h00
            split at h00
            · rw [if_pos (by cases hx' : a.spot <;> simp_all)] at h00; cases h00
            · cases h00
        obtain ⟨b, o, sp⟩ := a
        simp only at hsp
        subst hsp
        have hb : b < W.heap.size := by
          have e0 : ((⟨b, o, none⟩ : Addr).add (0 * ks.length)).add 0 = ⟨b, o, none⟩ := by simp [Addr.add]
          rw [e0] at h00
          unfold World.cell? at h00
          split at h00
          · rename_i hh; exact (Array.getElem?_eq_some_iff.1 hh).1
          · cases h00
        refine ⟨b, o, rfl, hb, fun i hi q hq => ?_⟩
        have := (hR i (by omega) q hq).1
        have e0 : ((⟨b, o, none⟩ : Addr).add (i * ks.length)).add q = ⟨b, o + i * ks.length + q, none⟩ := by
          rw [add_add, show o + i * ks.length + q = o + (i * ks.length + q) by omega]
          unfold Addr.add
          by_cases hi0 : i * ks.length + q = 0
          · rw [if_pos hi0, hi0, Nat.add_zero]
          · rw [if_neg hi0]
        rw [← e0]; exact this
    · obtain ⟨hxd, _⟩ := Prod.mk.inj hx
      subst hxd
      have z := sized_slice hsz hts hds ht
      rw [hB] at z
      simp only [List.length_map, List.length_range] at z
      exact Nat.le_trans (Nat.mul_le_mul_right _ (by omega)) z
end
end Tk
