/-
  No cell of these rows narrows 'for every input' (looked for: loops, veiled, ifaces, maps, wideKeys, modest, calm, conditions, laid).
  DERIVED. THE GIVEN ROWS OF THIS SEAT. 3 by the template 'for every input the law returns true; each argument reads behind the call as it read before'; 0 by the template 'total and deterministic' (their statements: YtigghlnnhdoabaaTotals.lean).
  GIVEN WITH THE SEED: the statements are not yours to turn. If you find one false, say at which input.
  Laid BY PROGRAM, IN A SANDBOX (cutbox-rows.mjs): the forced cells as the released guide's own fill.sh prints them over the translation 70846dd625b9022f… (all of the seat's roots in one cut). By AI agents, Wed Nov 11 2026. No macro, syntax, notation, axiom, sorry.
-/
import Derived.Test.YtigghlnnhdoabaaChecked
import GoSem.Claim
import GoSem.ClaimJoined
import GoSem.ClaimMapViews
import Derived.JoinedTies
import Derived.KernelRfl
namespace Go.Proofs.Ytigghlnnhdoabaa
/- THE CELL 'sum', in the pinned program and in every row, IS THE sha256 OF THE DUMP (.gsa) THAT YtigghlnnhdoabaaProg.lean LOADS. Nothing in Lean hashes anything: it is a label: what it is worth is what the hold of that sum in a sandbox is worth. -/
noncomputable def Try.pinned : Pinned := { name := "ytigghlnnhdoabaa", sum := "70846dd625b9022fa4a59483ab47f57f105671129f15f839e635adc4ed659769", checked := Try.checked }
namespace Rows
def none {H : Type} : Left H := { results := [], args := [] }

/-- 'timekeeperlaw17.HeirsCircle': WHATEVER THE INPUT: true; the input reads as it did. -/
def heirsCircleSpec : ChangeSpec := { name := "heirsCircle", fn := fun _ => fun
  | [d1, d2, d3] => { results := [.lit (.bool true)], args := [d1, d2, d3] }
  | _ => none }
def heirsCircleRow : OpenClaim := { program := "ytigghlnnhdoabaa", sum := "70846dd625b9022fa4a59483ab47f57f105671129f15f839e635adc4ed659769", func := "timekeeper/timekeeperlaw17.HeirsCircle", spec := "heirsCircle", unfollowed := true, recurses := true, apart := false }
def HeirsCircleSaid : Prop := heirsCircleRow.holds Try.pinned (OpenSpec.ofChange heirsCircleSpec)

/-- ITS FALSE NEIGHBOUR: 'it returns false'. Refute it at one input. -/
def heirsCircleWrong : ChangeSpec := { name := "heirsCircle", fn := fun _ => fun
  | [d1, d2, d3] => { results := [.lit (.bool false)], args := [d1, d2, d3] }
  | _ => none }
def HeirsCircleWrongFalsely : Prop := heirsCircleRow.holds Try.pinned (OpenSpec.ofChange heirsCircleWrong)

/-- 'timekeeperlaw17.HeirsLeast': WHATEVER THE INPUT: true; the input reads as it did. -/
def heirsLeastSpec : ChangeSpec := { name := "heirsLeast", fn := fun _ => fun
  | [d1, d2] => { results := [.lit (.bool true)], args := [d1, d2] }
  | _ => none }
def heirsLeastRow : OpenClaim := { program := "ytigghlnnhdoabaa", sum := "70846dd625b9022fa4a59483ab47f57f105671129f15f839e635adc4ed659769", func := "timekeeper/timekeeperlaw17.HeirsLeast", spec := "heirsLeast", unfollowed := true, recurses := true, apart := false }
def HeirsLeastSaid : Prop := heirsLeastRow.holds Try.pinned (OpenSpec.ofChange heirsLeastSpec)

/-- ITS FALSE NEIGHBOUR: 'it returns false'. Refute it at one input. -/
def heirsLeastWrong : ChangeSpec := { name := "heirsLeast", fn := fun _ => fun
  | [d1, d2] => { results := [.lit (.bool false)], args := [d1, d2] }
  | _ => none }
def HeirsLeastWrongFalsely : Prop := heirsLeastRow.holds Try.pinned (OpenSpec.ofChange heirsLeastWrong)

/-- 'timekeeperlaw17.HeirsMore': WHATEVER THE INPUT: true; the input reads as it did. -/
def heirsMoreSpec : ChangeSpec := { name := "heirsMore", fn := fun _ => fun
  | [d] => { results := [.lit (.bool true)], args := [d] }
  | _ => none }
def heirsMoreRow : OpenClaim := { program := "ytigghlnnhdoabaa", sum := "70846dd625b9022fa4a59483ab47f57f105671129f15f839e635adc4ed659769", func := "timekeeper/timekeeperlaw17.HeirsMore", spec := "heirsMore", unfollowed := true, recurses := true, apart := false }
def HeirsMoreSaid : Prop := heirsMoreRow.holds Try.pinned (OpenSpec.ofChange heirsMoreSpec)

/-- ITS FALSE NEIGHBOUR: 'it returns false'. Refute it at one input. -/
def heirsMoreWrong : ChangeSpec := { name := "heirsMore", fn := fun _ => fun
  | [d] => { results := [.lit (.bool false)], args := [d] }
  | _ => none }
def HeirsMoreWrongFalsely : Prop := heirsMoreRow.holds Try.pinned (OpenSpec.ofChange heirsMoreWrong)

/- THE SECOND FORM. 'bulk': how many values and letters a reading holds, each counted each time it is reached (what is shared counts as often as it is met; a slice's spare places count too). A statement '..UptoSaid' is the law's where the arguments, and the package variables that the reading takes, are together of bulk at most 1048576: NARROWER than '..Said'. Prove '..Said' where nothing that the law and all that it calls make is longer than what came in: it says more and counts as full. Else prove '..UptoSaid'. A law counts once. -/
mutual
def uptoBulk {H : Type} : DataW H → Nat
  | .lit (.string bytes) => bytes.length + 1
  | .lit _ => 1
  | .nil => 1
  | .ptr d => uptoBulk d + 1
  | .slice elems spare => uptoBulkAll elems + uptoBulkAll spare + 1
  | .agg parts => uptoBulkAll parts + 1
  | .iface _ d => uptoBulk d + 1
  | .map entries => uptoBulkEntries entries + 1
  | .held _ => 1
def uptoBulkAll {H : Type} : List (DataW H) → Nat
  | [] => 0
  | d :: r => uptoBulk d + uptoBulkAll r
def uptoBulkEntries {H : Type} : List (Lit × DataW H) → Nat
  | [] => 0
  | x :: r => uptoBulkEntry x + uptoBulkEntries r
def uptoBulkEntry {H : Type} : Lit × DataW H → Nat
  | (.string bytes, d) => bytes.length + uptoBulk d + 1
  | (_, d) => uptoBulk d + 1
 end
def uptoSmall : (H : Type) → List (DataW H) → Bool := fun _ ds => decide (uptoBulkAll ds ≤ 1048576)
def OpenSpec.upto (s : _root_.Go.ChangeSpec) : _root_.Go.OpenSpec := { _root_.Go.OpenSpec.ofChange s with cond := some uptoSmall }

/-- 'timekeeperlaw17.HeirsCircle', WHERE WHAT IT READS IS OF BULK AT MOST 1048576: true; the input reads as it did. -/
def heirsCircleUptoRow : OpenClaim := { program := "ytigghlnnhdoabaa", sum := "70846dd625b9022fa4a59483ab47f57f105671129f15f839e635adc4ed659769", func := "timekeeper/timekeeperlaw17.HeirsCircle", spec := "heirsCircle", unfollowed := true, recurses := true, apart := false, narrowed := true }
def HeirsCircleUptoSaid : Prop := heirsCircleUptoRow.holds Try.pinned (OpenSpec.upto heirsCircleSpec)

/-- 'timekeeperlaw17.HeirsLeast', WHERE WHAT IT READS IS OF BULK AT MOST 1048576: true; the input reads as it did. -/
def heirsLeastUptoRow : OpenClaim := { program := "ytigghlnnhdoabaa", sum := "70846dd625b9022fa4a59483ab47f57f105671129f15f839e635adc4ed659769", func := "timekeeper/timekeeperlaw17.HeirsLeast", spec := "heirsLeast", unfollowed := true, recurses := true, apart := false, narrowed := true }
def HeirsLeastUptoSaid : Prop := heirsLeastUptoRow.holds Try.pinned (OpenSpec.upto heirsLeastSpec)

/-- 'timekeeperlaw17.HeirsMore', WHERE WHAT IT READS IS OF BULK AT MOST 1048576: true; the input reads as it did. -/
def heirsMoreUptoRow : OpenClaim := { program := "ytigghlnnhdoabaa", sum := "70846dd625b9022fa4a59483ab47f57f105671129f15f839e635adc4ed659769", func := "timekeeper/timekeeperlaw17.HeirsMore", spec := "heirsMore", unfollowed := true, recurses := true, apart := false, narrowed := true }
def HeirsMoreUptoSaid : Prop := heirsMoreUptoRow.holds Try.pinned (OpenSpec.upto heirsMoreSpec)

end Rows
end Go.Proofs.Ytigghlnnhdoabaa
