/-
  No cell of these rows narrows 'for every input' (looked for: loops, veiled, ifaces, maps, wideKeys, modest, calm, conditions, laid).
  DERIVED. THE GIVEN ROWS OF THIS SEAT. 7 by the template 'for every input the law returns true; each argument reads behind the call as it read before'; 0 by the template 'total and deterministic' (their statements: YtoocpofcmnnlfaaTotals.lean).
  GIVEN WITH THE SEED: the statements are not yours to turn. If you find one false, say at which input.
  Laid BY PROGRAM, IN A SANDBOX (cutbox-rows.mjs): the forced cells as the released guide's own fill.sh prints them over the translation 4348bd8d9d554039… (all of the seat's roots in one cut). By AI agents, Wed Nov 11 2026. No macro, syntax, notation, axiom, sorry.
-/
import Derived.Test.YtoocpofcmnnlfaaChecked
import GoSem.Claim
import GoSem.ClaimJoined
import GoSem.ClaimMapViews
import Derived.JoinedTies
import Derived.KernelRfl
namespace Go.Proofs.Ytoocpofcmnnlfaa
/- THE CELL 'sum', in the pinned program and in every row, IS THE sha256 OF THE DUMP (.gsa) THAT YtoocpofcmnnlfaaProg.lean LOADS. Nothing in Lean hashes anything: it is a label: what it is worth is what the hold of that sum in a sandbox is worth. -/
noncomputable def Try.pinned : Pinned := { name := "ytoocpofcmnnlfaa", sum := "4348bd8d9d554039fd5ae6346b27d0fe6425d5ddb2e50e7ba38d02e786c756f2", checked := Try.checked }
namespace Rows
def none {H : Type} : Left H := { results := [], args := [] }

/-- 'timekeeperlaw08.HandlesNone': WHATEVER THE INPUT: true; the input reads as it did. -/
def handlesNoneSpec : ChangeSpec := { name := "handlesNone", fn := fun _ => fun
  | [d] => { results := [.lit (.bool true)], args := [d] }
  | _ => none }
def handlesNoneRow : OpenClaim := { program := "ytoocpofcmnnlfaa", sum := "4348bd8d9d554039fd5ae6346b27d0fe6425d5ddb2e50e7ba38d02e786c756f2", func := "timekeeper/timekeeperlaw08.HandlesNone", spec := "handlesNone", unfollowed := true, recurses := true, apart := false }
def HandlesNoneSaid : Prop := handlesNoneRow.holds Try.pinned (OpenSpec.ofChange handlesNoneSpec)

/-- ITS FALSE NEIGHBOUR: 'it returns false'. Refute it at one input. -/
def handlesNoneWrong : ChangeSpec := { name := "handlesNone", fn := fun _ => fun
  | [d] => { results := [.lit (.bool false)], args := [d] }
  | _ => none }
def HandlesNoneWrongFalsely : Prop := handlesNoneRow.holds Try.pinned (OpenSpec.ofChange handlesNoneWrong)

/-- 'timekeeperlaw08.HandlesNever': WHATEVER THE INPUT: true; the input reads as it did. -/
def handlesNeverSpec : ChangeSpec := { name := "handlesNever", fn := fun _ => fun
  | [d1, d2] => { results := [.lit (.bool true)], args := [d1, d2] }
  | _ => none }
def handlesNeverRow : OpenClaim := { program := "ytoocpofcmnnlfaa", sum := "4348bd8d9d554039fd5ae6346b27d0fe6425d5ddb2e50e7ba38d02e786c756f2", func := "timekeeper/timekeeperlaw08.HandlesNever", spec := "handlesNever", unfollowed := true, recurses := true, apart := false }
def HandlesNeverSaid : Prop := handlesNeverRow.holds Try.pinned (OpenSpec.ofChange handlesNeverSpec)

/-- ITS FALSE NEIGHBOUR: 'it returns false'. Refute it at one input. -/
def handlesNeverWrong : ChangeSpec := { name := "handlesNever", fn := fun _ => fun
  | [d1, d2] => { results := [.lit (.bool false)], args := [d1, d2] }
  | _ => none }
def HandlesNeverWrongFalsely : Prop := handlesNeverRow.holds Try.pinned (OpenSpec.ofChange handlesNeverWrong)

/-- 'timekeeperlaw08.HandlesPlaces': WHATEVER THE INPUT: true; the input reads as it did. -/
def handlesPlacesSpec : ChangeSpec := { name := "handlesPlaces", fn := fun _ => fun
  | [d1, d2, d3] => { results := [.lit (.bool true)], args := [d1, d2, d3] }
  | _ => none }
def handlesPlacesRow : OpenClaim := { program := "ytoocpofcmnnlfaa", sum := "4348bd8d9d554039fd5ae6346b27d0fe6425d5ddb2e50e7ba38d02e786c756f2", func := "timekeeper/timekeeperlaw08.HandlesPlaces", spec := "handlesPlaces", unfollowed := true, recurses := true, apart := false }
def HandlesPlacesSaid : Prop := handlesPlacesRow.holds Try.pinned (OpenSpec.ofChange handlesPlacesSpec)

/-- ITS FALSE NEIGHBOUR: 'it returns false'. Refute it at one input. -/
def handlesPlacesWrong : ChangeSpec := { name := "handlesPlaces", fn := fun _ => fun
  | [d1, d2, d3] => { results := [.lit (.bool false)], args := [d1, d2, d3] }
  | _ => none }
def HandlesPlacesWrongFalsely : Prop := handlesPlacesRow.holds Try.pinned (OpenSpec.ofChange handlesPlacesWrong)

/-- 'timekeeperlaw08.HandlesOlder': WHATEVER THE INPUT: true; the input reads as it did. -/
def handlesOlderSpec : ChangeSpec := { name := "handlesOlder", fn := fun _ => fun
  | [d1, d2] => { results := [.lit (.bool true)], args := [d1, d2] }
  | _ => none }
def handlesOlderRow : OpenClaim := { program := "ytoocpofcmnnlfaa", sum := "4348bd8d9d554039fd5ae6346b27d0fe6425d5ddb2e50e7ba38d02e786c756f2", func := "timekeeper/timekeeperlaw08.HandlesOlder", spec := "handlesOlder", unfollowed := true, recurses := true, apart := false }
def HandlesOlderSaid : Prop := handlesOlderRow.holds Try.pinned (OpenSpec.ofChange handlesOlderSpec)

/-- ITS FALSE NEIGHBOUR: 'it returns false'. Refute it at one input. -/
def handlesOlderWrong : ChangeSpec := { name := "handlesOlder", fn := fun _ => fun
  | [d1, d2] => { results := [.lit (.bool false)], args := [d1, d2] }
  | _ => none }
def HandlesOlderWrongFalsely : Prop := handlesOlderRow.holds Try.pinned (OpenSpec.ofChange handlesOlderWrong)

/-- 'timekeeperlaw08.HandlesAny': WHATEVER THE INPUT: true; the input reads as it did. -/
def handlesAnySpec : ChangeSpec := { name := "handlesAny", fn := fun _ => fun
  | [d1, d2] => { results := [.lit (.bool true)], args := [d1, d2] }
  | _ => none }
def handlesAnyRow : OpenClaim := { program := "ytoocpofcmnnlfaa", sum := "4348bd8d9d554039fd5ae6346b27d0fe6425d5ddb2e50e7ba38d02e786c756f2", func := "timekeeper/timekeeperlaw08.HandlesAny", spec := "handlesAny", unfollowed := true, recurses := true, apart := false }
def HandlesAnySaid : Prop := handlesAnyRow.holds Try.pinned (OpenSpec.ofChange handlesAnySpec)

/-- ITS FALSE NEIGHBOUR: 'it returns false'. Refute it at one input. -/
def handlesAnyWrong : ChangeSpec := { name := "handlesAny", fn := fun _ => fun
  | [d1, d2] => { results := [.lit (.bool false)], args := [d1, d2] }
  | _ => none }
def HandlesAnyWrongFalsely : Prop := handlesAnyRow.holds Try.pinned (OpenSpec.ofChange handlesAnyWrong)

/-- 'timekeeperlaw08.HandlesFull': WHATEVER THE INPUT: true; the input reads as it did. -/
def handlesFullSpec : ChangeSpec := { name := "handlesFull", fn := fun _ => fun
  | [d1, d2] => { results := [.lit (.bool true)], args := [d1, d2] }
  | _ => none }
def handlesFullRow : OpenClaim := { program := "ytoocpofcmnnlfaa", sum := "4348bd8d9d554039fd5ae6346b27d0fe6425d5ddb2e50e7ba38d02e786c756f2", func := "timekeeper/timekeeperlaw08.HandlesFull", spec := "handlesFull", unfollowed := true, recurses := true, apart := false }
def HandlesFullSaid : Prop := handlesFullRow.holds Try.pinned (OpenSpec.ofChange handlesFullSpec)

/-- ITS FALSE NEIGHBOUR: 'it returns false'. Refute it at one input. -/
def handlesFullWrong : ChangeSpec := { name := "handlesFull", fn := fun _ => fun
  | [d1, d2] => { results := [.lit (.bool false)], args := [d1, d2] }
  | _ => none }
def HandlesFullWrongFalsely : Prop := handlesFullRow.holds Try.pinned (OpenSpec.ofChange handlesFullWrong)

/-- 'timekeeperlaw08.HandlesTwo': WHATEVER THE INPUT: true; the input reads as it did. -/
def handlesTwoSpec : ChangeSpec := { name := "handlesTwo", fn := fun _ => fun
  | [d1, d2, d3] => { results := [.lit (.bool true)], args := [d1, d2, d3] }
  | _ => none }
def handlesTwoRow : OpenClaim := { program := "ytoocpofcmnnlfaa", sum := "4348bd8d9d554039fd5ae6346b27d0fe6425d5ddb2e50e7ba38d02e786c756f2", func := "timekeeper/timekeeperlaw08.HandlesTwo", spec := "handlesTwo", unfollowed := true, recurses := true, apart := false }
def HandlesTwoSaid : Prop := handlesTwoRow.holds Try.pinned (OpenSpec.ofChange handlesTwoSpec)

/-- ITS FALSE NEIGHBOUR: 'it returns false'. Refute it at one input. -/
def handlesTwoWrong : ChangeSpec := { name := "handlesTwo", fn := fun _ => fun
  | [d1, d2, d3] => { results := [.lit (.bool false)], args := [d1, d2, d3] }
  | _ => none }
def HandlesTwoWrongFalsely : Prop := handlesTwoRow.holds Try.pinned (OpenSpec.ofChange handlesTwoWrong)

/- THE SECOND FORM. 'bulk': how many values and letters a reading holds, each counted each time it is reached (what is shared counts as often as it is met; a slice's spare places count too). A statement '..UptoSaid' is the law's where the arguments, and the package variables that the reading takes, are together of bulk at most 1048576: NARROWER than '..Said'. Prove '..Said' where nothing that the law and all that it calls make is longer than what came in: it says more and counts as full. Else prove '..UptoSaid'. A law counts once. -/
mutual
def uptoBulk {H : Type} : DataW H → Nat
  | .lit (.string bytes) => bytes.length + 1
  | .lit _ => 1
  | .nil => 1
  | .ptr d => uptoBulk d + 1
  | .slice elems spare => uptoBulkAll elems + uptoBulkAll spare + 1
  | .agg parts => uptoBulkAll parts + 1
  | .iface _ d => uptoBulk d + 1
  | .map entries => uptoBulkEntries entries + 1
  | .held _ => 1
def uptoBulkAll {H : Type} : List (DataW H) → Nat
  | [] => 0
  | d :: r => uptoBulk d + uptoBulkAll r
def uptoBulkEntries {H : Type} : List (Lit × DataW H) → Nat
  | [] => 0
  | x :: r => uptoBulkEntry x + uptoBulkEntries r
def uptoBulkEntry {H : Type} : Lit × DataW H → Nat
  | (.string bytes, d) => bytes.length + uptoBulk d + 1
  | (_, d) => uptoBulk d + 1
 end
def uptoSmall : (H : Type) → List (DataW H) → Bool := fun _ ds => decide (uptoBulkAll ds ≤ 1048576)
def OpenSpec.upto (s : _root_.Go.ChangeSpec) : _root_.Go.OpenSpec := { _root_.Go.OpenSpec.ofChange s with cond := some uptoSmall }

/-- 'timekeeperlaw08.HandlesNone', WHERE WHAT IT READS IS OF BULK AT MOST 1048576: true; the input reads as it did. -/
def handlesNoneUptoRow : OpenClaim := { program := "ytoocpofcmnnlfaa", sum := "4348bd8d9d554039fd5ae6346b27d0fe6425d5ddb2e50e7ba38d02e786c756f2", func := "timekeeper/timekeeperlaw08.HandlesNone", spec := "handlesNone", unfollowed := true, recurses := true, apart := false, narrowed := true }
def HandlesNoneUptoSaid : Prop := handlesNoneUptoRow.holds Try.pinned (OpenSpec.upto handlesNoneSpec)

/-- 'timekeeperlaw08.HandlesNever', WHERE WHAT IT READS IS OF BULK AT MOST 1048576: true; the input reads as it did. -/
def handlesNeverUptoRow : OpenClaim := { program := "ytoocpofcmnnlfaa", sum := "4348bd8d9d554039fd5ae6346b27d0fe6425d5ddb2e50e7ba38d02e786c756f2", func := "timekeeper/timekeeperlaw08.HandlesNever", spec := "handlesNever", unfollowed := true, recurses := true, apart := false, narrowed := true }
def HandlesNeverUptoSaid : Prop := handlesNeverUptoRow.holds Try.pinned (OpenSpec.upto handlesNeverSpec)

/-- 'timekeeperlaw08.HandlesPlaces', WHERE WHAT IT READS IS OF BULK AT MOST 1048576: true; the input reads as it did. -/
def handlesPlacesUptoRow : OpenClaim := { program := "ytoocpofcmnnlfaa", sum := "4348bd8d9d554039fd5ae6346b27d0fe6425d5ddb2e50e7ba38d02e786c756f2", func := "timekeeper/timekeeperlaw08.HandlesPlaces", spec := "handlesPlaces", unfollowed := true, recurses := true, apart := false, narrowed := true }
def HandlesPlacesUptoSaid : Prop := handlesPlacesUptoRow.holds Try.pinned (OpenSpec.upto handlesPlacesSpec)

/-- 'timekeeperlaw08.HandlesOlder', WHERE WHAT IT READS IS OF BULK AT MOST 1048576: true; the input reads as it did. -/
def handlesOlderUptoRow : OpenClaim := { program := "ytoocpofcmnnlfaa", sum := "4348bd8d9d554039fd5ae6346b27d0fe6425d5ddb2e50e7ba38d02e786c756f2", func := "timekeeper/timekeeperlaw08.HandlesOlder", spec := "handlesOlder", unfollowed := true, recurses := true, apart := false, narrowed := true }
def HandlesOlderUptoSaid : Prop := handlesOlderUptoRow.holds Try.pinned (OpenSpec.upto handlesOlderSpec)

/-- 'timekeeperlaw08.HandlesAny', WHERE WHAT IT READS IS OF BULK AT MOST 1048576: true; the input reads as it did. -/
def handlesAnyUptoRow : OpenClaim := { program := "ytoocpofcmnnlfaa", sum := "4348bd8d9d554039fd5ae6346b27d0fe6425d5ddb2e50e7ba38d02e786c756f2", func := "timekeeper/timekeeperlaw08.HandlesAny", spec := "handlesAny", unfollowed := true, recurses := true, apart := false, narrowed := true }
def HandlesAnyUptoSaid : Prop := handlesAnyUptoRow.holds Try.pinned (OpenSpec.upto handlesAnySpec)

/-- 'timekeeperlaw08.HandlesFull', WHERE WHAT IT READS IS OF BULK AT MOST 1048576: true; the input reads as it did. -/
def handlesFullUptoRow : OpenClaim := { program := "ytoocpofcmnnlfaa", sum := "4348bd8d9d554039fd5ae6346b27d0fe6425d5ddb2e50e7ba38d02e786c756f2", func := "timekeeper/timekeeperlaw08.HandlesFull", spec := "handlesFull", unfollowed := true, recurses := true, apart := false, narrowed := true }
def HandlesFullUptoSaid : Prop := handlesFullUptoRow.holds Try.pinned (OpenSpec.upto handlesFullSpec)

/-- 'timekeeperlaw08.HandlesTwo', WHERE WHAT IT READS IS OF BULK AT MOST 1048576: true; the input reads as it did. -/
def handlesTwoUptoRow : OpenClaim := { program := "ytoocpofcmnnlfaa", sum := "4348bd8d9d554039fd5ae6346b27d0fe6425d5ddb2e50e7ba38d02e786c756f2", func := "timekeeper/timekeeperlaw08.HandlesTwo", spec := "handlesTwo", unfollowed := true, recurses := true, apart := false, narrowed := true }
def HandlesTwoUptoSaid : Prop := handlesTwoUptoRow.holds Try.pinned (OpenSpec.upto handlesTwoSpec)

end Rows
end Go.Proofs.Ytoocpofcmnnlfaa
