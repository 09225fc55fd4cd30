/- Package objects: who leaves a thing that nobody has: a method of an embedded struct without cells. -/
import Derived.Test.YtneamjaglgnmkaaGreatDoorObP3
namespace Go.Proofs.YtneamjaglgnmkaaGreatDoor
open Go.RowKit Go.Shelf Tk
set_option linter.unusedVariables false
set_option linter.unusedSimpArgs false
/-- A method of an embedded struct without cells, behind a pointer. -/
theorem method_embed {P : Program} {w : World} {T S : TypeId} {q n c : Nat} {name : String} {F : FuncId} {m : Method} {fs : Array Field} {fl : Field} {i j : TypeInfo}
    (hi : P.info? T = some i) (hm : i.methods.find? (fun x => x.name == name) = some m) (hp : m.path = #[⟨S, 0, true⟩]) (hf : m.func = some (F, false))
    (hS : P.underlying S = some (.struct fs)) (h0 : fs[0]? = some fl) (ho : fl.offset = 0) (hb : fl.byteOffset = 0) (hj : P.info? fl.type = some j) (hz : j.size = 0) {fs2 : Array Field} (hC : P.underlying fl.type = some (.struct fs2))
    (hc : P.cellsOf S = c + 1) (hbc : byteOfCell P P.depth S 0 = some 0)
    (hs : w.shape? q = some (S, n)) (fuel : Nat) : (method (fuel + 1) T (.pointer (some ⟨q, 0, none⟩)) name).run P w = .ok (F, .agg #[]) w := by
  have hv : (viewAt q).run P w = .ok none w := by simp [viewAt, shape, Sem.run, hs]
  have hbo : (byteOf ⟨q, 0, none⟩).run P w = .ok 0 w := by
    simp [byteOf, noView, hv, program, shape, Sem.run, hs, hc, hbc]
  simp [method, typeInfo, hi, hm, hp, hf, follow, run_underlying hS, h0, asAddr, fieldPlace, sizeOf, hj, hz, partAt, hbo, ho, hb, receiverAt, run_underlying hC, Place.get, loadVar, isAgg, loadCells, loadCellsFrom]
/-- The closed facts of such a type. -/
def embedB (P : Program) (T S : TypeId) (F : FuncId) (name : String) : Bool :=
  match P.info? T with
  | some i => match i.methods.find? (fun x => x.name == name) with
    | some m => (m.path == #[⟨S, 0, true⟩]) && (m.func == some (F, false)) && (match P.underlying S with
      | some (.struct fs) => match fs[0]? with
        | some fl => (fl.offset == 0) && (fl.byteOffset == 0) && (match P.info? fl.type with | some j => j.size == 0 | none => false) && (match P.underlying fl.type with | some (.struct _) => true | _ => false)
        | none => false
      | _ => false) && (P.cellsOf S != 0) && (byteOfCell P P.depth S 0 == some 0)
    | none => false
  | none => false
theorem method_embedB {P : Program} {w : World} {T S : TypeId} {q n : Nat} {name : String} {F : FuncId} (h : embedB P T S F name = true) (hs : w.shape? q = some (S, n)) (fuel : Nat) :
    (method (fuel + 1) T (.pointer (some ⟨q, 0, none⟩)) name).run P w = .ok (F, .agg #[]) w := by
  unfold embedB at h
  split at h
  · rename_i i hi
    split at h
    · rename_i m hm
      rw [Bool.and_eq_true, Bool.and_eq_true, Bool.and_eq_true, Bool.and_eq_true, beq_iff_eq, beq_iff_eq, beq_iff_eq, bne_iff_ne] at h
      obtain ⟨⟨⟨⟨hp, hf⟩, h1⟩, hc⟩, hbc⟩ := h
      split at h1
      · rename_i fs hS
        split at h1
        · rename_i fl h0
          rw [Bool.and_eq_true, Bool.and_eq_true, Bool.and_eq_true, beq_iff_eq, beq_iff_eq] at h1
          obtain ⟨⟨⟨ho, hb⟩, h2⟩, h3⟩ := h1
          split at h2
          · rename_i j hj
            split at h3
            · rename_i fs2 hC
              obtain ⟨c, hc'⟩ := Nat.exists_eq_succ_of_ne_zero hc
              exact method_embed hi hm hp hf hS h0 ho hb hj (by simpa using h2) hC hc' hbc hs fuel
            · cases h3
          · cases h2
        · cases h1
      · cases h1
    · cases h
  · cases h
theorem embed_count : embedB Tryz.prog 64 68 115 "timekeeper/objects.leave" = true := by kernel_rfl
theorem embed_row : embedB Tryz.prog 75 77 115 "timekeeper/objects.leave" = true := by kernel_rfl
theorem embed_flags : embedB Tryz.prog 78 80 115 "timekeeper/objects.leave" = true := by kernel_rfl
end Go.Proofs.YtneamjaglgnmkaaGreatDoor
