/-
  No cell of these rows narrows 'for every input' (looked for: loops, veiled, ifaces, maps, wideKeys, modest, calm, conditions, laid).
  DERIVED. THE GIVEN ROWS OF THIS SEAT. 7 by the template 'for every input the law returns true; each argument reads behind the call as it read before'; 0 by the template 'total and deterministic' (their statements: YthdcogndmpeepaaTotals.lean).
  GIVEN WITH THE SEED: the statements are not yours to turn. If you find one false, say at which input.
  Laid BY PROGRAM, IN A SANDBOX (cutbox-rows.mjs): the forced cells as the released guide's own fill.sh prints them over the translation 0a269aa756cd4132… (all of the seat's roots in one cut). By AI agents, Wed Nov 11 2026. No macro, syntax, notation, axiom, sorry.
-/
import Derived.Test.YthdcogndmpeepaaChecked
import GoSem.Claim
import GoSem.ClaimJoined
import GoSem.ClaimMapViews
import Derived.JoinedTies
import Derived.KernelRfl
namespace Go.Proofs.Ythdcogndmpeepaa
/- THE CELL 'sum', in the pinned program and in every row, IS THE sha256 OF THE DUMP (.gsa) THAT YthdcogndmpeepaaProg.lean LOADS. Nothing in Lean hashes anything: it is a label: what it is worth is what the hold of that sum in a sandbox is worth. -/
noncomputable def Try.pinned : Pinned := { name := "ythdcogndmpeepaa", sum := "0a269aa756cd4132521e4ae98c2c25ac1fdd704d67f3d8d9cf16db66c6d40421", checked := Try.checked }
namespace Rows
def none {H : Type} : Left H := { results := [], args := [] }

/-- 'timekeeperlaw05.PoolsNone': WHATEVER THE INPUT: true; the input reads as it did. -/
def poolsNoneSpec : ChangeSpec := { name := "poolsNone", fn := fun _ => fun
  | [d1, d2] => { results := [.lit (.bool true)], args := [d1, d2] }
  | _ => none }
def poolsNoneRow : OpenClaim := { program := "ythdcogndmpeepaa", sum := "0a269aa756cd4132521e4ae98c2c25ac1fdd704d67f3d8d9cf16db66c6d40421", func := "timekeeper/timekeeperlaw05.PoolsNone", spec := "poolsNone", unfollowed := true, recurses := true, apart := false }
def PoolsNoneSaid : Prop := poolsNoneRow.holds Try.pinned (OpenSpec.ofChange poolsNoneSpec)

/-- ITS FALSE NEIGHBOUR: 'it returns false'. Refute it at one input. -/
def poolsNoneWrong : ChangeSpec := { name := "poolsNone", fn := fun _ => fun
  | [d1, d2] => { results := [.lit (.bool false)], args := [d1, d2] }
  | _ => none }
def PoolsNoneWrongFalsely : Prop := poolsNoneRow.holds Try.pinned (OpenSpec.ofChange poolsNoneWrong)

/-- 'timekeeperlaw05.PoolsWhole': WHATEVER THE INPUT: true; the input reads as it did. -/
def poolsWholeSpec : ChangeSpec := { name := "poolsWhole", fn := fun _ => fun
  | [d1, d2] => { results := [.lit (.bool true)], args := [d1, d2] }
  | _ => none }
def poolsWholeRow : OpenClaim := { program := "ythdcogndmpeepaa", sum := "0a269aa756cd4132521e4ae98c2c25ac1fdd704d67f3d8d9cf16db66c6d40421", func := "timekeeper/timekeeperlaw05.PoolsWhole", spec := "poolsWhole", unfollowed := true, recurses := true, apart := false }
def PoolsWholeSaid : Prop := poolsWholeRow.holds Try.pinned (OpenSpec.ofChange poolsWholeSpec)

/-- ITS FALSE NEIGHBOUR: 'it returns false'. Refute it at one input. -/
def poolsWholeWrong : ChangeSpec := { name := "poolsWhole", fn := fun _ => fun
  | [d1, d2] => { results := [.lit (.bool false)], args := [d1, d2] }
  | _ => none }
def PoolsWholeWrongFalsely : Prop := poolsWholeRow.holds Try.pinned (OpenSpec.ofChange poolsWholeWrong)

/-- 'timekeeperlaw05.PoolsAll': WHATEVER THE INPUT: true; the input reads as it did. -/
def poolsAllSpec : ChangeSpec := { name := "poolsAll", fn := fun _ => fun
  | [d1, d2, d3] => { results := [.lit (.bool true)], args := [d1, d2, d3] }
  | _ => none }
def poolsAllRow : OpenClaim := { program := "ythdcogndmpeepaa", sum := "0a269aa756cd4132521e4ae98c2c25ac1fdd704d67f3d8d9cf16db66c6d40421", func := "timekeeper/timekeeperlaw05.PoolsAll", spec := "poolsAll", unfollowed := true, recurses := true, apart := false }
def PoolsAllSaid : Prop := poolsAllRow.holds Try.pinned (OpenSpec.ofChange poolsAllSpec)

/-- ITS FALSE NEIGHBOUR: 'it returns false'. Refute it at one input. -/
def poolsAllWrong : ChangeSpec := { name := "poolsAll", fn := fun _ => fun
  | [d1, d2, d3] => { results := [.lit (.bool false)], args := [d1, d2, d3] }
  | _ => none }
def PoolsAllWrongFalsely : Prop := poolsAllRow.holds Try.pinned (OpenSpec.ofChange poolsAllWrong)

/-- 'timekeeperlaw05.PoolsLeast': WHATEVER THE INPUT: true; the input reads as it did. -/
def poolsLeastSpec : ChangeSpec := { name := "poolsLeast", fn := fun _ => fun
  | [d1, d2] => { results := [.lit (.bool true)], args := [d1, d2] }
  | _ => none }
def poolsLeastRow : OpenClaim := { program := "ythdcogndmpeepaa", sum := "0a269aa756cd4132521e4ae98c2c25ac1fdd704d67f3d8d9cf16db66c6d40421", func := "timekeeper/timekeeperlaw05.PoolsLeast", spec := "poolsLeast", unfollowed := true, recurses := true, apart := false }
def PoolsLeastSaid : Prop := poolsLeastRow.holds Try.pinned (OpenSpec.ofChange poolsLeastSpec)

/-- ITS FALSE NEIGHBOUR: 'it returns false'. Refute it at one input. -/
def poolsLeastWrong : ChangeSpec := { name := "poolsLeast", fn := fun _ => fun
  | [d1, d2] => { results := [.lit (.bool false)], args := [d1, d2] }
  | _ => none }
def PoolsLeastWrongFalsely : Prop := poolsLeastRow.holds Try.pinned (OpenSpec.ofChange poolsLeastWrong)

/-- 'timekeeperlaw05.PoolsOwners': WHATEVER THE INPUT: true; the input reads as it did. -/
def poolsOwnersSpec : ChangeSpec := { name := "poolsOwners", fn := fun _ => fun
  | [d1, d2, d3] => { results := [.lit (.bool true)], args := [d1, d2, d3] }
  | _ => none }
def poolsOwnersRow : OpenClaim := { program := "ythdcogndmpeepaa", sum := "0a269aa756cd4132521e4ae98c2c25ac1fdd704d67f3d8d9cf16db66c6d40421", func := "timekeeper/timekeeperlaw05.PoolsOwners", spec := "poolsOwners", unfollowed := true, recurses := true, apart := false }
def PoolsOwnersSaid : Prop := poolsOwnersRow.holds Try.pinned (OpenSpec.ofChange poolsOwnersSpec)

/-- ITS FALSE NEIGHBOUR: 'it returns false'. Refute it at one input. -/
def poolsOwnersWrong : ChangeSpec := { name := "poolsOwners", fn := fun _ => fun
  | [d1, d2, d3] => { results := [.lit (.bool false)], args := [d1, d2, d3] }
  | _ => none }
def PoolsOwnersWrongFalsely : Prop := poolsOwnersRow.holds Try.pinned (OpenSpec.ofChange poolsOwnersWrong)

/-- 'timekeeperlaw05.PoolsTwo': WHATEVER THE INPUT: true; the input reads as it did. -/
def poolsTwoSpec : ChangeSpec := { name := "poolsTwo", fn := fun _ => fun
  | [d1, d2] => { results := [.lit (.bool true)], args := [d1, d2] }
  | _ => none }
def poolsTwoRow : OpenClaim := { program := "ythdcogndmpeepaa", sum := "0a269aa756cd4132521e4ae98c2c25ac1fdd704d67f3d8d9cf16db66c6d40421", func := "timekeeper/timekeeperlaw05.PoolsTwo", spec := "poolsTwo", unfollowed := true, recurses := true, apart := false }
def PoolsTwoSaid : Prop := poolsTwoRow.holds Try.pinned (OpenSpec.ofChange poolsTwoSpec)

/-- ITS FALSE NEIGHBOUR: 'it returns false'. Refute it at one input. -/
def poolsTwoWrong : ChangeSpec := { name := "poolsTwo", fn := fun _ => fun
  | [d1, d2] => { results := [.lit (.bool false)], args := [d1, d2] }
  | _ => none }
def PoolsTwoWrongFalsely : Prop := poolsTwoRow.holds Try.pinned (OpenSpec.ofChange poolsTwoWrong)

/-- 'timekeeperlaw05.PoolsAgain': WHATEVER THE INPUT: true; the input reads as it did. -/
def poolsAgainSpec : ChangeSpec := { name := "poolsAgain", fn := fun _ => fun
  | [d1, d2, d3] => { results := [.lit (.bool true)], args := [d1, d2, d3] }
  | _ => none }
def poolsAgainRow : OpenClaim := { program := "ythdcogndmpeepaa", sum := "0a269aa756cd4132521e4ae98c2c25ac1fdd704d67f3d8d9cf16db66c6d40421", func := "timekeeper/timekeeperlaw05.PoolsAgain", spec := "poolsAgain", unfollowed := true, recurses := true, apart := false }
def PoolsAgainSaid : Prop := poolsAgainRow.holds Try.pinned (OpenSpec.ofChange poolsAgainSpec)

/-- ITS FALSE NEIGHBOUR: 'it returns false'. Refute it at one input. -/
def poolsAgainWrong : ChangeSpec := { name := "poolsAgain", fn := fun _ => fun
  | [d1, d2, d3] => { results := [.lit (.bool false)], args := [d1, d2, d3] }
  | _ => none }
def PoolsAgainWrongFalsely : Prop := poolsAgainRow.holds Try.pinned (OpenSpec.ofChange poolsAgainWrong)

/- THE SECOND FORM. 'bulk': how many values and letters a reading holds, each counted each time it is reached (what is shared counts as often as it is met; a slice's spare places count too). A statement '..UptoSaid' is the law's where the arguments, and the package variables that the reading takes, are together of bulk at most 1048576: NARROWER than '..Said'. Prove '..Said' where nothing that the law and all that it calls make is longer than what came in: it says more and counts as full. Else prove '..UptoSaid'. A law counts once. -/
mutual
def uptoBulk {H : Type} : DataW H → Nat
  | .lit (.string bytes) => bytes.length + 1
  | .lit _ => 1
  | .nil => 1
  | .ptr d => uptoBulk d + 1
  | .slice elems spare => uptoBulkAll elems + uptoBulkAll spare + 1
  | .agg parts => uptoBulkAll parts + 1
  | .iface _ d => uptoBulk d + 1
  | .map entries => uptoBulkEntries entries + 1
  | .held _ => 1
def uptoBulkAll {H : Type} : List (DataW H) → Nat
  | [] => 0
  | d :: r => uptoBulk d + uptoBulkAll r
def uptoBulkEntries {H : Type} : List (Lit × DataW H) → Nat
  | [] => 0
  | x :: r => uptoBulkEntry x + uptoBulkEntries r
def uptoBulkEntry {H : Type} : Lit × DataW H → Nat
  | (.string bytes, d) => bytes.length + uptoBulk d + 1
  | (_, d) => uptoBulk d + 1
 end
def uptoSmall : (H : Type) → List (DataW H) → Bool := fun _ ds => decide (uptoBulkAll ds ≤ 1048576)
def OpenSpec.upto (s : _root_.Go.ChangeSpec) : _root_.Go.OpenSpec := { _root_.Go.OpenSpec.ofChange s with cond := some uptoSmall }

/-- 'timekeeperlaw05.PoolsNone', WHERE WHAT IT READS IS OF BULK AT MOST 1048576: true; the input reads as it did. -/
def poolsNoneUptoRow : OpenClaim := { program := "ythdcogndmpeepaa", sum := "0a269aa756cd4132521e4ae98c2c25ac1fdd704d67f3d8d9cf16db66c6d40421", func := "timekeeper/timekeeperlaw05.PoolsNone", spec := "poolsNone", unfollowed := true, recurses := true, apart := false, narrowed := true }
def PoolsNoneUptoSaid : Prop := poolsNoneUptoRow.holds Try.pinned (OpenSpec.upto poolsNoneSpec)

/-- 'timekeeperlaw05.PoolsWhole', WHERE WHAT IT READS IS OF BULK AT MOST 1048576: true; the input reads as it did. -/
def poolsWholeUptoRow : OpenClaim := { program := "ythdcogndmpeepaa", sum := "0a269aa756cd4132521e4ae98c2c25ac1fdd704d67f3d8d9cf16db66c6d40421", func := "timekeeper/timekeeperlaw05.PoolsWhole", spec := "poolsWhole", unfollowed := true, recurses := true, apart := false, narrowed := true }
def PoolsWholeUptoSaid : Prop := poolsWholeUptoRow.holds Try.pinned (OpenSpec.upto poolsWholeSpec)

/-- 'timekeeperlaw05.PoolsAll', WHERE WHAT IT READS IS OF BULK AT MOST 1048576: true; the input reads as it did. -/
def poolsAllUptoRow : OpenClaim := { program := "ythdcogndmpeepaa", sum := "0a269aa756cd4132521e4ae98c2c25ac1fdd704d67f3d8d9cf16db66c6d40421", func := "timekeeper/timekeeperlaw05.PoolsAll", spec := "poolsAll", unfollowed := true, recurses := true, apart := false, narrowed := true }
def PoolsAllUptoSaid : Prop := poolsAllUptoRow.holds Try.pinned (OpenSpec.upto poolsAllSpec)

/-- 'timekeeperlaw05.PoolsLeast', WHERE WHAT IT READS IS OF BULK AT MOST 1048576: true; the input reads as it did. -/
def poolsLeastUptoRow : OpenClaim := { program := "ythdcogndmpeepaa", sum := "0a269aa756cd4132521e4ae98c2c25ac1fdd704d67f3d8d9cf16db66c6d40421", func := "timekeeper/timekeeperlaw05.PoolsLeast", spec := "poolsLeast", unfollowed := true, recurses := true, apart := false, narrowed := true }
def PoolsLeastUptoSaid : Prop := poolsLeastUptoRow.holds Try.pinned (OpenSpec.upto poolsLeastSpec)

/-- 'timekeeperlaw05.PoolsOwners', WHERE WHAT IT READS IS OF BULK AT MOST 1048576: true; the input reads as it did. -/
def poolsOwnersUptoRow : OpenClaim := { program := "ythdcogndmpeepaa", sum := "0a269aa756cd4132521e4ae98c2c25ac1fdd704d67f3d8d9cf16db66c6d40421", func := "timekeeper/timekeeperlaw05.PoolsOwners", spec := "poolsOwners", unfollowed := true, recurses := true, apart := false, narrowed := true }
def PoolsOwnersUptoSaid : Prop := poolsOwnersUptoRow.holds Try.pinned (OpenSpec.upto poolsOwnersSpec)

/-- 'timekeeperlaw05.PoolsTwo', WHERE WHAT IT READS IS OF BULK AT MOST 1048576: true; the input reads as it did. -/
def poolsTwoUptoRow : OpenClaim := { program := "ythdcogndmpeepaa", sum := "0a269aa756cd4132521e4ae98c2c25ac1fdd704d67f3d8d9cf16db66c6d40421", func := "timekeeper/timekeeperlaw05.PoolsTwo", spec := "poolsTwo", unfollowed := true, recurses := true, apart := false, narrowed := true }
def PoolsTwoUptoSaid : Prop := poolsTwoUptoRow.holds Try.pinned (OpenSpec.upto poolsTwoSpec)

/-- 'timekeeperlaw05.PoolsAgain', WHERE WHAT IT READS IS OF BULK AT MOST 1048576: true; the input reads as it did. -/
def poolsAgainUptoRow : OpenClaim := { program := "ythdcogndmpeepaa", sum := "0a269aa756cd4132521e4ae98c2c25ac1fdd704d67f3d8d9cf16db66c6d40421", func := "timekeeper/timekeeperlaw05.PoolsAgain", spec := "poolsAgain", unfollowed := true, recurses := true, apart := false, narrowed := true }
def PoolsAgainUptoSaid : Prop := poolsAgainUptoRow.holds Try.pinned (OpenSpec.upto poolsAgainSpec)

end Rows
end Go.Proofs.Ythdcogndmpeepaa
