/-
  No cell of these rows narrows 'for every input' (looked for: loops, veiled, ifaces, maps, wideKeys, modest, calm, conditions, laid).
  DERIVED. THE GIVEN ROWS OF THIS SEAT. 7 by the template 'for every input the law returns true; each argument reads behind the call as it read before'; 0 by the template 'total and deterministic' (their statements: YtpklpfpngjlokaaTotals.lean).
  GIVEN WITH THE SEED: the statements are not yours to turn. If you find one false, say at which input.
  Laid BY PROGRAM, IN A SANDBOX (cutbox-rows.mjs): the forced cells as the released guide's own fill.sh prints them over the translation c3f487b3c243ebad… (all of the seat's roots in one cut). By AI agents, Wed Nov 11 2026. No macro, syntax, notation, axiom, sorry.
-/
import Derived.Test.YtpklpfpngjlokaaChecked
import GoSem.Claim
import GoSem.ClaimJoined
import GoSem.ClaimMapViews
import Derived.JoinedTies
import Derived.KernelRfl
namespace Go.Proofs.Ytpklpfpngjlokaa
/- THE CELL 'sum', in the pinned program and in every row, IS THE sha256 OF THE DUMP (.gsa) THAT YtpklpfpngjlokaaProg.lean LOADS. Nothing in Lean hashes anything: it is a label: what it is worth is what the hold of that sum in a sandbox is worth. -/
noncomputable def Try.pinned : Pinned := { name := "ytpklpfpngjlokaa", sum := "c3f487b3c243ebadb9196ba4229cca17b79dda4f0c9a5c7d1ce5ad0b5f78b274", checked := Try.checked }
namespace Rows
def none {H : Type} : Left H := { results := [], args := [] }

/-- 'timekeeperlaw06.LaddersSets': WHATEVER THE INPUT: true; the input reads as it did. -/
def laddersSetsSpec : ChangeSpec := { name := "laddersSets", fn := fun _ => fun
  | [d1, d2] => { results := [.lit (.bool true)], args := [d1, d2] }
  | _ => none }
def laddersSetsRow : OpenClaim := { program := "ytpklpfpngjlokaa", sum := "c3f487b3c243ebadb9196ba4229cca17b79dda4f0c9a5c7d1ce5ad0b5f78b274", func := "timekeeper/timekeeperlaw06.LaddersSets", spec := "laddersSets", apart := false }
def LaddersSetsSaid : Prop := laddersSetsRow.holds Try.pinned (OpenSpec.ofChange laddersSetsSpec)

/-- ITS FALSE NEIGHBOUR: 'it returns false'. Refute it at one input. -/
def laddersSetsWrong : ChangeSpec := { name := "laddersSets", fn := fun _ => fun
  | [d1, d2] => { results := [.lit (.bool false)], args := [d1, d2] }
  | _ => none }
def LaddersSetsWrongFalsely : Prop := laddersSetsRow.holds Try.pinned (OpenSpec.ofChange laddersSetsWrong)

/-- 'timekeeperlaw06.LaddersOne': WHATEVER THE INPUT: true; the input reads as it did. -/
def laddersOneSpec : ChangeSpec := { name := "laddersOne", fn := fun _ => fun
  | [d1, d2] => { results := [.lit (.bool true)], args := [d1, d2] }
  | _ => none }
def laddersOneRow : OpenClaim := { program := "ytpklpfpngjlokaa", sum := "c3f487b3c243ebadb9196ba4229cca17b79dda4f0c9a5c7d1ce5ad0b5f78b274", func := "timekeeper/timekeeperlaw06.LaddersOne", spec := "laddersOne", unfollowed := true, recurses := true, apart := false }
def LaddersOneSaid : Prop := laddersOneRow.holds Try.pinned (OpenSpec.ofChange laddersOneSpec)

/-- ITS FALSE NEIGHBOUR: 'it returns false'. Refute it at one input. -/
def laddersOneWrong : ChangeSpec := { name := "laddersOne", fn := fun _ => fun
  | [d1, d2] => { results := [.lit (.bool false)], args := [d1, d2] }
  | _ => none }
def LaddersOneWrongFalsely : Prop := laddersOneRow.holds Try.pinned (OpenSpec.ofChange laddersOneWrong)

/-- 'timekeeperlaw06.LaddersFalls': WHATEVER THE INPUT: true; the input reads as it did. -/
def laddersFallsSpec : ChangeSpec := { name := "laddersFalls", fn := fun _ => fun
  | [d] => { results := [.lit (.bool true)], args := [d] }
  | _ => none }
def laddersFallsRow : OpenClaim := { program := "ytpklpfpngjlokaa", sum := "c3f487b3c243ebadb9196ba4229cca17b79dda4f0c9a5c7d1ce5ad0b5f78b274", func := "timekeeper/timekeeperlaw06.LaddersFalls", spec := "laddersFalls", unfollowed := true, recurses := true, apart := false }
def LaddersFallsSaid : Prop := laddersFallsRow.holds Try.pinned (OpenSpec.ofChange laddersFallsSpec)

/-- ITS FALSE NEIGHBOUR: 'it returns false'. Refute it at one input. -/
def laddersFallsWrong : ChangeSpec := { name := "laddersFalls", fn := fun _ => fun
  | [d] => { results := [.lit (.bool false)], args := [d] }
  | _ => none }
def LaddersFallsWrongFalsely : Prop := laddersFallsRow.holds Try.pinned (OpenSpec.ofChange laddersFallsWrong)

/-- 'timekeeperlaw06.LaddersBuilt': WHATEVER THE INPUT: true; the input reads as it did. -/
def laddersBuiltSpec : ChangeSpec := { name := "laddersBuilt", fn := fun _ => fun
  | [d] => { results := [.lit (.bool true)], args := [d] }
  | _ => none }
def laddersBuiltRow : OpenClaim := { program := "ytpklpfpngjlokaa", sum := "c3f487b3c243ebadb9196ba4229cca17b79dda4f0c9a5c7d1ce5ad0b5f78b274", func := "timekeeper/timekeeperlaw06.LaddersBuilt", spec := "laddersBuilt", unfollowed := true, recurses := true, apart := false }
def LaddersBuiltSaid : Prop := laddersBuiltRow.holds Try.pinned (OpenSpec.ofChange laddersBuiltSpec)

/-- ITS FALSE NEIGHBOUR: 'it returns false'. Refute it at one input. -/
def laddersBuiltWrong : ChangeSpec := { name := "laddersBuilt", fn := fun _ => fun
  | [d] => { results := [.lit (.bool false)], args := [d] }
  | _ => none }
def LaddersBuiltWrongFalsely : Prop := laddersBuiltRow.holds Try.pinned (OpenSpec.ofChange laddersBuiltWrong)

/-- 'timekeeperlaw06.LaddersBits': WHATEVER THE INPUT: true; the input reads as it did. -/
def laddersBitsSpec : ChangeSpec := { name := "laddersBits", fn := fun _ => fun
  | [d1, d2] => { results := [.lit (.bool true)], args := [d1, d2] }
  | _ => none }
def laddersBitsRow : OpenClaim := { program := "ytpklpfpngjlokaa", sum := "c3f487b3c243ebadb9196ba4229cca17b79dda4f0c9a5c7d1ce5ad0b5f78b274", func := "timekeeper/timekeeperlaw06.LaddersBits", spec := "laddersBits", unfollowed := true, recurses := true, apart := false }
def LaddersBitsSaid : Prop := laddersBitsRow.holds Try.pinned (OpenSpec.ofChange laddersBitsSpec)

/-- ITS FALSE NEIGHBOUR: 'it returns false'. Refute it at one input. -/
def laddersBitsWrong : ChangeSpec := { name := "laddersBits", fn := fun _ => fun
  | [d1, d2] => { results := [.lit (.bool false)], args := [d1, d2] }
  | _ => none }
def LaddersBitsWrongFalsely : Prop := laddersBitsRow.holds Try.pinned (OpenSpec.ofChange laddersBitsWrong)

/-- 'timekeeperlaw06.LaddersBoth': WHATEVER THE INPUT: true; the input reads as it did. -/
def laddersBothSpec : ChangeSpec := { name := "laddersBoth", fn := fun _ => fun
  | [d1, d2] => { results := [.lit (.bool true)], args := [d1, d2] }
  | _ => none }
def laddersBothRow : OpenClaim := { program := "ytpklpfpngjlokaa", sum := "c3f487b3c243ebadb9196ba4229cca17b79dda4f0c9a5c7d1ce5ad0b5f78b274", func := "timekeeper/timekeeperlaw06.LaddersBoth", spec := "laddersBoth", unfollowed := true, recurses := true, apart := false }
def LaddersBothSaid : Prop := laddersBothRow.holds Try.pinned (OpenSpec.ofChange laddersBothSpec)

/-- ITS FALSE NEIGHBOUR: 'it returns false'. Refute it at one input. -/
def laddersBothWrong : ChangeSpec := { name := "laddersBoth", fn := fun _ => fun
  | [d1, d2] => { results := [.lit (.bool false)], args := [d1, d2] }
  | _ => none }
def LaddersBothWrongFalsely : Prop := laddersBothRow.holds Try.pinned (OpenSpec.ofChange laddersBothWrong)

/-- 'timekeeperlaw06.LaddersLast': WHATEVER THE INPUT: true; the input reads as it did. -/
def laddersLastSpec : ChangeSpec := { name := "laddersLast", fn := fun _ => fun
  | [d] => { results := [.lit (.bool true)], args := [d] }
  | _ => none }
def laddersLastRow : OpenClaim := { program := "ytpklpfpngjlokaa", sum := "c3f487b3c243ebadb9196ba4229cca17b79dda4f0c9a5c7d1ce5ad0b5f78b274", func := "timekeeper/timekeeperlaw06.LaddersLast", spec := "laddersLast", unfollowed := true, recurses := true, apart := false }
def LaddersLastSaid : Prop := laddersLastRow.holds Try.pinned (OpenSpec.ofChange laddersLastSpec)

/-- ITS FALSE NEIGHBOUR: 'it returns false'. Refute it at one input. -/
def laddersLastWrong : ChangeSpec := { name := "laddersLast", fn := fun _ => fun
  | [d] => { results := [.lit (.bool false)], args := [d] }
  | _ => none }
def LaddersLastWrongFalsely : Prop := laddersLastRow.holds Try.pinned (OpenSpec.ofChange laddersLastWrong)

/- THE SECOND FORM. 'bulk': how many values and letters a reading holds, each counted each time it is reached (what is shared counts as often as it is met; a slice's spare places count too). A statement '..UptoSaid' is the law's where the arguments, and the package variables that the reading takes, are together of bulk at most 1048576: NARROWER than '..Said'. Prove '..Said' where nothing that the law and all that it calls make is longer than what came in: it says more and counts as full. Else prove '..UptoSaid'. A law counts once. -/
mutual
def uptoBulk {H : Type} : DataW H → Nat
  | .lit (.string bytes) => bytes.length + 1
  | .lit _ => 1
  | .nil => 1
  | .ptr d => uptoBulk d + 1
  | .slice elems spare => uptoBulkAll elems + uptoBulkAll spare + 1
  | .agg parts => uptoBulkAll parts + 1
  | .iface _ d => uptoBulk d + 1
  | .map entries => uptoBulkEntries entries + 1
  | .held _ => 1
def uptoBulkAll {H : Type} : List (DataW H) → Nat
  | [] => 0
  | d :: r => uptoBulk d + uptoBulkAll r
def uptoBulkEntries {H : Type} : List (Lit × DataW H) → Nat
  | [] => 0
  | x :: r => uptoBulkEntry x + uptoBulkEntries r
def uptoBulkEntry {H : Type} : Lit × DataW H → Nat
  | (.string bytes, d) => bytes.length + uptoBulk d + 1
  | (_, d) => uptoBulk d + 1
 end
def uptoSmall : (H : Type) → List (DataW H) → Bool := fun _ ds => decide (uptoBulkAll ds ≤ 1048576)
def OpenSpec.upto (s : _root_.Go.ChangeSpec) : _root_.Go.OpenSpec := { _root_.Go.OpenSpec.ofChange s with cond := some uptoSmall }

/-- 'timekeeperlaw06.LaddersSets', WHERE WHAT IT READS IS OF BULK AT MOST 1048576: true; the input reads as it did. -/
def laddersSetsUptoRow : OpenClaim := { program := "ytpklpfpngjlokaa", sum := "c3f487b3c243ebadb9196ba4229cca17b79dda4f0c9a5c7d1ce5ad0b5f78b274", func := "timekeeper/timekeeperlaw06.LaddersSets", spec := "laddersSets", apart := false, narrowed := true }
def LaddersSetsUptoSaid : Prop := laddersSetsUptoRow.holds Try.pinned (OpenSpec.upto laddersSetsSpec)

/-- 'timekeeperlaw06.LaddersOne', WHERE WHAT IT READS IS OF BULK AT MOST 1048576: true; the input reads as it did. -/
def laddersOneUptoRow : OpenClaim := { program := "ytpklpfpngjlokaa", sum := "c3f487b3c243ebadb9196ba4229cca17b79dda4f0c9a5c7d1ce5ad0b5f78b274", func := "timekeeper/timekeeperlaw06.LaddersOne", spec := "laddersOne", unfollowed := true, recurses := true, apart := false, narrowed := true }
def LaddersOneUptoSaid : Prop := laddersOneUptoRow.holds Try.pinned (OpenSpec.upto laddersOneSpec)

/-- 'timekeeperlaw06.LaddersFalls', WHERE WHAT IT READS IS OF BULK AT MOST 1048576: true; the input reads as it did. -/
def laddersFallsUptoRow : OpenClaim := { program := "ytpklpfpngjlokaa", sum := "c3f487b3c243ebadb9196ba4229cca17b79dda4f0c9a5c7d1ce5ad0b5f78b274", func := "timekeeper/timekeeperlaw06.LaddersFalls", spec := "laddersFalls", unfollowed := true, recurses := true, apart := false, narrowed := true }
def LaddersFallsUptoSaid : Prop := laddersFallsUptoRow.holds Try.pinned (OpenSpec.upto laddersFallsSpec)

/-- 'timekeeperlaw06.LaddersBuilt', WHERE WHAT IT READS IS OF BULK AT MOST 1048576: true; the input reads as it did. -/
def laddersBuiltUptoRow : OpenClaim := { program := "ytpklpfpngjlokaa", sum := "c3f487b3c243ebadb9196ba4229cca17b79dda4f0c9a5c7d1ce5ad0b5f78b274", func := "timekeeper/timekeeperlaw06.LaddersBuilt", spec := "laddersBuilt", unfollowed := true, recurses := true, apart := false, narrowed := true }
def LaddersBuiltUptoSaid : Prop := laddersBuiltUptoRow.holds Try.pinned (OpenSpec.upto laddersBuiltSpec)

/-- 'timekeeperlaw06.LaddersBits', WHERE WHAT IT READS IS OF BULK AT MOST 1048576: true; the input reads as it did. -/
def laddersBitsUptoRow : OpenClaim := { program := "ytpklpfpngjlokaa", sum := "c3f487b3c243ebadb9196ba4229cca17b79dda4f0c9a5c7d1ce5ad0b5f78b274", func := "timekeeper/timekeeperlaw06.LaddersBits", spec := "laddersBits", unfollowed := true, recurses := true, apart := false, narrowed := true }
def LaddersBitsUptoSaid : Prop := laddersBitsUptoRow.holds Try.pinned (OpenSpec.upto laddersBitsSpec)

/-- 'timekeeperlaw06.LaddersBoth', WHERE WHAT IT READS IS OF BULK AT MOST 1048576: true; the input reads as it did. -/
def laddersBothUptoRow : OpenClaim := { program := "ytpklpfpngjlokaa", sum := "c3f487b3c243ebadb9196ba4229cca17b79dda4f0c9a5c7d1ce5ad0b5f78b274", func := "timekeeper/timekeeperlaw06.LaddersBoth", spec := "laddersBoth", unfollowed := true, recurses := true, apart := false, narrowed := true }
def LaddersBothUptoSaid : Prop := laddersBothUptoRow.holds Try.pinned (OpenSpec.upto laddersBothSpec)

/-- 'timekeeperlaw06.LaddersLast', WHERE WHAT IT READS IS OF BULK AT MOST 1048576: true; the input reads as it did. -/
def laddersLastUptoRow : OpenClaim := { program := "ytpklpfpngjlokaa", sum := "c3f487b3c243ebadb9196ba4229cca17b79dda4f0c9a5c7d1ce5ad0b5f78b274", func := "timekeeper/timekeeperlaw06.LaddersLast", spec := "laddersLast", unfollowed := true, recurses := true, apart := false, narrowed := true }
def LaddersLastUptoSaid : Prop := laddersLastUptoRow.holds Try.pinned (OpenSpec.upto laddersLastSpec)

end Rows
end Go.Proofs.Ytpklpfpngjlokaa
