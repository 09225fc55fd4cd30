/- HeirsMore: whatever the input, the law returns true and its arguments read as before. No further condition. -/
import Derived.Test.YtigghlnnhdoabaaRows
import Derived.Test.YtigghlnnhdoabaaHeiMore
import Derived.Test.YtigghlnnhdoabaaFrame
import Derived.Test.YtigghlnnhdoabaaFrameS
import Derived.WalkKit
import Derived.ProofKit
import Derived.OpenShut
import Derived.ShutString
import Derived.ChangeOld
import Derived.Below
import Derived.SizedLaws
namespace Go.Proofs.Ytigghlnnhdoabaa.heirsMore
open Go.ChangeShapes Go.WideShapes Go.ChangeAt Go.RowKit Tk
open Go.ChangeMaps (open_string shut_string)
set_option linter.unusedVariables false
theorem own : ownKnob Try.prog.godebug = none := by kernel_rfl
theorem laidOut : laidOutB Try.prog = true := by kernel_rfl
set_option maxRecDepth 100000 in
theorem lifted (os : Os) (started : os.Started) (H : Type) (enc : TypeId × Value → H) :
    ReturnsInHanded {} Try.checked os 5 .any (Rows.heirsMoreSpec.pre6 enc Try.prog Try.f5 Rows.heirsMoreRow.domain false) (Rows.heirsMoreSpec.post enc Try.prog Try.f5 false true false false) := by
  refine returnsInHanded_of_change_sized (C := Try.checked) own started (by kernel_rfl) Try.func5
    (ChangeSpec.witness6 (enc := enc) (C := Try.checked) false ⟨#[], #[.agg #[.slice none 0 0, .slice none 0 0, .int .u8 0, .int .u8 0]], []⟩ 8 (by kernel_rfl) (by kernel_rfl) (by kernel_rfl) (by kernel_rfl)) ?_
  intro W base args ds gs before hval0 hW hcnd hsz0 _
  have hsz : (DataW.weightsEach Try.prog (Try.f5.params.toList ++ Rows.heirsMoreSpec.plain.varTypes Try.prog) (ds ++ gs)).all (· ≤ reachBytes) = true := hsz0
  have hval : ∀ (j : Nat) t v, Try.f5.params[j]? = some t → args[j]? = some v → Value.okWide Try.prog W .any base t v := hval0
  have hW' := hW
  obtain ⟨p, q, hA0, hV, rfl, hfz, hnd⟩ := hW
  have hA : DataW.TrodAll enc Try.prog W 0 (fun _ => true) true Try.f5.params.toList args.toList ds p := hA0
  rw [Try.params5] at hA hval hsz
  obtain ⟨v0, vs0, d0, ds0, p0, q0, hargs, rfl, rfl, h0, r0⟩ := trodAll_cons hA
  obtain ⟨rfl, rfl, rfl⟩ := trodAll_nil r0
  obtain rfl : args = #[v0] := by cases args; simp_all
  obtain ⟨rfl, rfl⟩ := trodVars_none hV
  have k0 := h0
  have lt0 : ∀ x ∈ p0, x.block < W.heap.size := by obtain ⟨m, hm⟩ := k0; exact DataW.trod_lt m _ _ _ hm
  obtain ⟨v0_0, v0_1, v0_2, v0_3, y0_0, y0_1, y0_2, y0_3, n0, rfl, rfl, rfl, t0_0, t0_1, t0_2, t0_3⟩ := Joins.open_agg4 Try.underlying31 (by kernel_rfl) (by kernel_rfl) (hval 0 31 v0 rfl rfl) h0
  obtain ⟨A0_0, c0_0, x0_0, rfl, hl0_0, s0_0⟩ := field_nums Try.underlying22 Try.underlying3 (by kernel_rfl) t0_0
  obtain ⟨A0_1, c0_1, x0_1, rfl, hl0_1, s0_1⟩ := field_nums Try.underlying22 Try.underlying3 (by kernel_rfl) t0_1
  obtain ⟨a0_2, rfl, w0_2⟩ := field_num Try.underlying5 t0_2
  obtain ⟨a0_3, rfl, w0_3⟩ := field_num Try.underlying5 t0_3
  clear hA0 hval0 hsz0 hsz
  refine (heirsMore_walk A0_0 c0_0 x0_0 hl0_0 A0_1 c0_1 x0_1 hl0_1 a0_2 w0_2 a0_3 w0_3 W s0_0 s0_1).mono fun e W' ⟨he, hg⟩ => ?_
  have bel := below_of_grown hg
  subst he
  exact ⟨_, rfl, _, _, _, [], _, [], hW', trodAll_mk1 (shut_bool Try.underlying4 _), (trodAll_cons_mk (Below.trod laidOut (by kernel_rfl) (of_decide_eq_true (by kernel_rfl)) k0 bel lt0) trodAll_mk0), rfl, bel.frame _, fun h => by cases h⟩
theorem over : Rows.heirsMoreRow.holds Try.pinned (OpenSpec.ofChange Rows.heirsMoreSpec) :=
  OpenClaim.holds_of_wide 5 Try.f5 rfl rfl rfl rfl rfl rfl rfl ⟨rfl, rfl, rfl, rfl, rfl⟩ rfl rfl rfl rfl rfl (by kernel_rfl) Try.func5 (by kernel_rfl)
    (of_decide_eq_true (by kernel_rfl)) (by unfold Func.isWrapper; first | (rw [if_pos (by decide +kernel)]; kernel_rfl) | (rw [if_neg (by decide +kernel)]; exact ⟨rfl, rfl⟩))
    (fun os started H enc _ => lifted os started H enc)
theorem proved : Rows.HeirsMoreSaid := over
#print axioms proved
end Go.Proofs.Ytigghlnnhdoabaa.heirsMore
namespace Go.Proofs.Ytigghlnnhdoabaa
/-- The row, under a short name, for the claim. -/
theorem heirsMore_holds : Rows.HeirsMoreSaid := heirsMore.proved
end Go.Proofs.Ytigghlnnhdoabaa
