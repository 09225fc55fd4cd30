/-
  No cell of these rows narrows 'for every input' (looked for: loops, veiled, ifaces, maps, wideKeys, modest, calm, conditions, laid).
  DERIVED. THE GIVEN ROWS OF THIS SEAT. 6 by the template 'for every input the law returns true; each argument reads behind the call as it read before'; 0 by the template 'total and deterministic' (their statements: YteiepkkebjbepaaTotals.lean).
  GIVEN WITH THE SEED: the statements are not yours to turn. If you find one false, say at which input.
  Laid BY PROGRAM, IN A SANDBOX (cutbox-rows.mjs): the forced cells as the released guide's own fill.sh prints them over the translation 423259951cc5b687… (all of the seat's roots in one cut). By AI agents, Wed Nov 11 2026. No macro, syntax, notation, axiom, sorry.
-/
import Derived.Test.YteiepkkebjbepaaChecked
import GoSem.Claim
import GoSem.ClaimJoined
import GoSem.ClaimMapViews
import Derived.JoinedTies
import Derived.KernelRfl
namespace Go.Proofs.Yteiepkkebjbepaa
/- THE CELL 'sum', in the pinned program and in every row, IS THE sha256 OF THE DUMP (.gsa) THAT YteiepkkebjbepaaProg.lean LOADS. Nothing in Lean hashes anything: it is a label: what it is worth is what the hold of that sum in a sandbox is worth. -/
noncomputable def Try.pinned : Pinned := { name := "yteiepkkebjbepaa", sum := "423259951cc5b687c26c82da02477f59a950d1bbf7a9274e7c57d256dcb663e9", checked := Try.checked }
namespace Rows
def none {H : Type} : Left H := { results := [], args := [] }

/-- 'timekeeperlaw04.RegionsNone': WHATEVER THE INPUT: true; the input reads as it did. -/
def regionsNoneSpec : ChangeSpec := { name := "regionsNone", fn := fun _ => fun
  | [d1, d2] => { results := [.lit (.bool true)], args := [d1, d2] }
  | _ => none }
def regionsNoneRow : OpenClaim := { program := "yteiepkkebjbepaa", sum := "423259951cc5b687c26c82da02477f59a950d1bbf7a9274e7c57d256dcb663e9", func := "timekeeper/timekeeperlaw04.RegionsNone", spec := "regionsNone", apart := false }
def RegionsNoneSaid : Prop := regionsNoneRow.holds Try.pinned (OpenSpec.ofChange regionsNoneSpec)

/-- ITS FALSE NEIGHBOUR: 'it returns false'. Refute it at one input. -/
def regionsNoneWrong : ChangeSpec := { name := "regionsNone", fn := fun _ => fun
  | [d1, d2] => { results := [.lit (.bool false)], args := [d1, d2] }
  | _ => none }
def RegionsNoneWrongFalsely : Prop := regionsNoneRow.holds Try.pinned (OpenSpec.ofChange regionsNoneWrong)

/-- 'timekeeperlaw04.RegionsBack': WHATEVER THE INPUT: true; the input reads as it did. -/
def regionsBackSpec : ChangeSpec := { name := "regionsBack", fn := fun _ => fun
  | [d1, d2, d3] => { results := [.lit (.bool true)], args := [d1, d2, d3] }
  | _ => none }
def regionsBackRow : OpenClaim := { program := "yteiepkkebjbepaa", sum := "423259951cc5b687c26c82da02477f59a950d1bbf7a9274e7c57d256dcb663e9", func := "timekeeper/timekeeperlaw04.RegionsBack", spec := "regionsBack", apart := false }
def RegionsBackSaid : Prop := regionsBackRow.holds Try.pinned (OpenSpec.ofChange regionsBackSpec)

/-- ITS FALSE NEIGHBOUR: 'it returns false'. Refute it at one input. -/
def regionsBackWrong : ChangeSpec := { name := "regionsBack", fn := fun _ => fun
  | [d1, d2, d3] => { results := [.lit (.bool false)], args := [d1, d2, d3] }
  | _ => none }
def RegionsBackWrongFalsely : Prop := regionsBackRow.holds Try.pinned (OpenSpec.ofChange regionsBackWrong)

/-- 'timekeeperlaw04.RegionsBytes': WHATEVER THE INPUT: true; the input reads as it did. -/
def regionsBytesSpec : ChangeSpec := { name := "regionsBytes", fn := fun _ => fun
  | [d1, d2, d3] => { results := [.lit (.bool true)], args := [d1, d2, d3] }
  | _ => none }
def regionsBytesRow : OpenClaim := { program := "yteiepkkebjbepaa", sum := "423259951cc5b687c26c82da02477f59a950d1bbf7a9274e7c57d256dcb663e9", func := "timekeeper/timekeeperlaw04.RegionsBytes", spec := "regionsBytes", apart := false }
def RegionsBytesSaid : Prop := regionsBytesRow.holds Try.pinned (OpenSpec.ofChange regionsBytesSpec)

/-- ITS FALSE NEIGHBOUR: 'it returns false'. Refute it at one input. -/
def regionsBytesWrong : ChangeSpec := { name := "regionsBytes", fn := fun _ => fun
  | [d1, d2, d3] => { results := [.lit (.bool false)], args := [d1, d2, d3] }
  | _ => none }
def RegionsBytesWrongFalsely : Prop := regionsBytesRow.holds Try.pinned (OpenSpec.ofChange regionsBytesWrong)

/-- 'timekeeperlaw04.RegionsBegin': WHATEVER THE INPUT: true; the input reads as it did. -/
def regionsBeginSpec : ChangeSpec := { name := "regionsBegin", fn := fun _ => fun
  | [d1, d2] => { results := [.lit (.bool true)], args := [d1, d2] }
  | _ => none }
def regionsBeginRow : OpenClaim := { program := "yteiepkkebjbepaa", sum := "423259951cc5b687c26c82da02477f59a950d1bbf7a9274e7c57d256dcb663e9", func := "timekeeper/timekeeperlaw04.RegionsBegin", spec := "regionsBegin", apart := false }
def RegionsBeginSaid : Prop := regionsBeginRow.holds Try.pinned (OpenSpec.ofChange regionsBeginSpec)

/-- ITS FALSE NEIGHBOUR: 'it returns false'. Refute it at one input. -/
def regionsBeginWrong : ChangeSpec := { name := "regionsBegin", fn := fun _ => fun
  | [d1, d2] => { results := [.lit (.bool false)], args := [d1, d2] }
  | _ => none }
def RegionsBeginWrongFalsely : Prop := regionsBeginRow.holds Try.pinned (OpenSpec.ofChange regionsBeginWrong)

/-- 'timekeeperlaw04.RegionsEdge': WHATEVER THE INPUT: true; the input reads as it did. -/
def regionsEdgeSpec : ChangeSpec := { name := "regionsEdge", fn := fun _ => fun
  | [d1, d2] => { results := [.lit (.bool true)], args := [d1, d2] }
  | _ => none }
def regionsEdgeRow : OpenClaim := { program := "yteiepkkebjbepaa", sum := "423259951cc5b687c26c82da02477f59a950d1bbf7a9274e7c57d256dcb663e9", func := "timekeeper/timekeeperlaw04.RegionsEdge", spec := "regionsEdge", apart := false }
def RegionsEdgeSaid : Prop := regionsEdgeRow.holds Try.pinned (OpenSpec.ofChange regionsEdgeSpec)

/-- ITS FALSE NEIGHBOUR: 'it returns false'. Refute it at one input. -/
def regionsEdgeWrong : ChangeSpec := { name := "regionsEdge", fn := fun _ => fun
  | [d1, d2] => { results := [.lit (.bool false)], args := [d1, d2] }
  | _ => none }
def RegionsEdgeWrongFalsely : Prop := regionsEdgeRow.holds Try.pinned (OpenSpec.ofChange regionsEdgeWrong)

/-- 'timekeeperlaw04.RegionsApart': WHATEVER THE INPUT: true; the input reads as it did. -/
def regionsApartSpec : ChangeSpec := { name := "regionsApart", fn := fun _ => fun
  | [d1, d2, d3] => { results := [.lit (.bool true)], args := [d1, d2, d3] }
  | _ => none }
def regionsApartRow : OpenClaim := { program := "yteiepkkebjbepaa", sum := "423259951cc5b687c26c82da02477f59a950d1bbf7a9274e7c57d256dcb663e9", func := "timekeeper/timekeeperlaw04.RegionsApart", spec := "regionsApart", apart := false }
def RegionsApartSaid : Prop := regionsApartRow.holds Try.pinned (OpenSpec.ofChange regionsApartSpec)

/-- ITS FALSE NEIGHBOUR: 'it returns false'. Refute it at one input. -/
def regionsApartWrong : ChangeSpec := { name := "regionsApart", fn := fun _ => fun
  | [d1, d2, d3] => { results := [.lit (.bool false)], args := [d1, d2, d3] }
  | _ => none }
def RegionsApartWrongFalsely : Prop := regionsApartRow.holds Try.pinned (OpenSpec.ofChange regionsApartWrong)

/- THE SECOND FORM. 'bulk': how many values and letters a reading holds, each counted each time it is reached (what is shared counts as often as it is met; a slice's spare places count too). A statement '..UptoSaid' is the law's where the arguments, and the package variables that the reading takes, are together of bulk at most 1048576: NARROWER than '..Said'. Prove '..Said' where nothing that the law and all that it calls make is longer than what came in: it says more and counts as full. Else prove '..UptoSaid'. A law counts once. -/
mutual
def uptoBulk {H : Type} : DataW H → Nat
  | .lit (.string bytes) => bytes.length + 1
  | .lit _ => 1
  | .nil => 1
  | .ptr d => uptoBulk d + 1
  | .slice elems spare => uptoBulkAll elems + uptoBulkAll spare + 1
  | .agg parts => uptoBulkAll parts + 1
  | .iface _ d => uptoBulk d + 1
  | .map entries => uptoBulkEntries entries + 1
  | .held _ => 1
def uptoBulkAll {H : Type} : List (DataW H) → Nat
  | [] => 0
  | d :: r => uptoBulk d + uptoBulkAll r
def uptoBulkEntries {H : Type} : List (Lit × DataW H) → Nat
  | [] => 0
  | x :: r => uptoBulkEntry x + uptoBulkEntries r
def uptoBulkEntry {H : Type} : Lit × DataW H → Nat
  | (.string bytes, d) => bytes.length + uptoBulk d + 1
  | (_, d) => uptoBulk d + 1
 end
def uptoSmall : (H : Type) → List (DataW H) → Bool := fun _ ds => decide (uptoBulkAll ds ≤ 1048576)
def OpenSpec.upto (s : _root_.Go.ChangeSpec) : _root_.Go.OpenSpec := { _root_.Go.OpenSpec.ofChange s with cond := some uptoSmall }

/-- 'timekeeperlaw04.RegionsNone', WHERE WHAT IT READS IS OF BULK AT MOST 1048576: true; the input reads as it did. -/
def regionsNoneUptoRow : OpenClaim := { program := "yteiepkkebjbepaa", sum := "423259951cc5b687c26c82da02477f59a950d1bbf7a9274e7c57d256dcb663e9", func := "timekeeper/timekeeperlaw04.RegionsNone", spec := "regionsNone", apart := false, narrowed := true }
def RegionsNoneUptoSaid : Prop := regionsNoneUptoRow.holds Try.pinned (OpenSpec.upto regionsNoneSpec)

/-- 'timekeeperlaw04.RegionsBack', WHERE WHAT IT READS IS OF BULK AT MOST 1048576: true; the input reads as it did. -/
def regionsBackUptoRow : OpenClaim := { program := "yteiepkkebjbepaa", sum := "423259951cc5b687c26c82da02477f59a950d1bbf7a9274e7c57d256dcb663e9", func := "timekeeper/timekeeperlaw04.RegionsBack", spec := "regionsBack", apart := false, narrowed := true }
def RegionsBackUptoSaid : Prop := regionsBackUptoRow.holds Try.pinned (OpenSpec.upto regionsBackSpec)

/-- 'timekeeperlaw04.RegionsBytes', WHERE WHAT IT READS IS OF BULK AT MOST 1048576: true; the input reads as it did. -/
def regionsBytesUptoRow : OpenClaim := { program := "yteiepkkebjbepaa", sum := "423259951cc5b687c26c82da02477f59a950d1bbf7a9274e7c57d256dcb663e9", func := "timekeeper/timekeeperlaw04.RegionsBytes", spec := "regionsBytes", apart := false, narrowed := true }
def RegionsBytesUptoSaid : Prop := regionsBytesUptoRow.holds Try.pinned (OpenSpec.upto regionsBytesSpec)

/-- 'timekeeperlaw04.RegionsBegin', WHERE WHAT IT READS IS OF BULK AT MOST 1048576: true; the input reads as it did. -/
def regionsBeginUptoRow : OpenClaim := { program := "yteiepkkebjbepaa", sum := "423259951cc5b687c26c82da02477f59a950d1bbf7a9274e7c57d256dcb663e9", func := "timekeeper/timekeeperlaw04.RegionsBegin", spec := "regionsBegin", apart := false, narrowed := true }
def RegionsBeginUptoSaid : Prop := regionsBeginUptoRow.holds Try.pinned (OpenSpec.upto regionsBeginSpec)

/-- 'timekeeperlaw04.RegionsEdge', WHERE WHAT IT READS IS OF BULK AT MOST 1048576: true; the input reads as it did. -/
def regionsEdgeUptoRow : OpenClaim := { program := "yteiepkkebjbepaa", sum := "423259951cc5b687c26c82da02477f59a950d1bbf7a9274e7c57d256dcb663e9", func := "timekeeper/timekeeperlaw04.RegionsEdge", spec := "regionsEdge", apart := false, narrowed := true }
def RegionsEdgeUptoSaid : Prop := regionsEdgeUptoRow.holds Try.pinned (OpenSpec.upto regionsEdgeSpec)

/-- 'timekeeperlaw04.RegionsApart', WHERE WHAT IT READS IS OF BULK AT MOST 1048576: true; the input reads as it did. -/
def regionsApartUptoRow : OpenClaim := { program := "yteiepkkebjbepaa", sum := "423259951cc5b687c26c82da02477f59a950d1bbf7a9274e7c57d256dcb663e9", func := "timekeeper/timekeeperlaw04.RegionsApart", spec := "regionsApart", apart := false, narrowed := true }
def RegionsApartUptoSaid : Prop := regionsApartUptoRow.holds Try.pinned (OpenSpec.upto regionsApartSpec)

end Rows
end Go.Proofs.Yteiepkkebjbepaa
