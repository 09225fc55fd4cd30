/-
  No cell of these rows narrows 'for every input' (looked for: loops, veiled, ifaces, maps, wideKeys, modest, calm, conditions, laid).
  DERIVED. THE GIVEN ROWS OF THIS SEAT. 6 by the template 'for every input the law returns true; each argument reads behind the call as it read before'; 0 by the template 'total and deterministic' (their statements: YtekcalpoghcefaaTotals.lean).
  GIVEN WITH THE SEED: the statements are not yours to turn. If you find one false, say at which input.
  Laid BY PROGRAM, IN A SANDBOX (cutbox-rows.mjs): the forced cells as the released guide's own fill.sh prints them over the translation 104b391f08bd30f0… (all of the seat's roots in one cut). By AI agents, Wed Nov 11 2026. No macro, syntax, notation, axiom, sorry.
-/
import Derived.Test.YtekcalpoghcefaaChecked
import GoSem.Claim
import GoSem.ClaimJoined
import GoSem.ClaimMapViews
import Derived.JoinedTies
import Derived.KernelRfl
namespace Go.Proofs.Ytekcalpoghcefaa
/- THE CELL 'sum', in the pinned program and in every row, IS THE sha256 OF THE DUMP (.gsa) THAT YtekcalpoghcefaaProg.lean LOADS. Nothing in Lean hashes anything: it is a label: what it is worth is what the hold of that sum in a sandbox is worth. -/
noncomputable def Try.pinned : Pinned := { name := "ytekcalpoghcefaa", sum := "104b391f08bd30f07d0f5f6fb96b215f4fed5868d91a55101caad1c887b7dfca", checked := Try.checked }
namespace Rows
def none {H : Type} : Left H := { results := [], args := [] }

/-- 'timekeeperlaw11.QueuesNone': WHATEVER THE INPUT: true; the input reads as it did. -/
def queuesNoneSpec : ChangeSpec := { name := "queuesNone", fn := fun _ => fun
  | [d] => { results := [.lit (.bool true)], args := [d] }
  | _ => none }
def queuesNoneRow : OpenClaim := { program := "ytekcalpoghcefaa", sum := "104b391f08bd30f07d0f5f6fb96b215f4fed5868d91a55101caad1c887b7dfca", func := "timekeeper/timekeeperlaw11.QueuesNone", spec := "queuesNone", apart := false }
def QueuesNoneSaid : Prop := queuesNoneRow.holds Try.pinned (OpenSpec.ofChange queuesNoneSpec)

/-- ITS FALSE NEIGHBOUR: 'it returns false'. Refute it at one input. -/
def queuesNoneWrong : ChangeSpec := { name := "queuesNone", fn := fun _ => fun
  | [d] => { results := [.lit (.bool false)], args := [d] }
  | _ => none }
def QueuesNoneWrongFalsely : Prop := queuesNoneRow.holds Try.pinned (OpenSpec.ofChange queuesNoneWrong)

/-- 'timekeeperlaw11.QueuesOrder': WHATEVER THE INPUT: true; the input reads as it did. -/
def queuesOrderSpec : ChangeSpec := { name := "queuesOrder", fn := fun _ => fun
  | [d1, d2] => { results := [.lit (.bool true)], args := [d1, d2] }
  | _ => none }
def queuesOrderRow : OpenClaim := { program := "ytekcalpoghcefaa", sum := "104b391f08bd30f07d0f5f6fb96b215f4fed5868d91a55101caad1c887b7dfca", func := "timekeeper/timekeeperlaw11.QueuesOrder", spec := "queuesOrder", apart := false }
def QueuesOrderSaid : Prop := queuesOrderRow.holds Try.pinned (OpenSpec.ofChange queuesOrderSpec)

/-- ITS FALSE NEIGHBOUR: 'it returns false'. Refute it at one input. -/
def queuesOrderWrong : ChangeSpec := { name := "queuesOrder", fn := fun _ => fun
  | [d1, d2] => { results := [.lit (.bool false)], args := [d1, d2] }
  | _ => none }
def QueuesOrderWrongFalsely : Prop := queuesOrderRow.holds Try.pinned (OpenSpec.ofChange queuesOrderWrong)

/-- 'timekeeperlaw11.QueuesFull': WHATEVER THE INPUT: true; the input reads as it did. -/
def queuesFullSpec : ChangeSpec := { name := "queuesFull", fn := fun _ => fun
  | [d1, d2, d3] => { results := [.lit (.bool true)], args := [d1, d2, d3] }
  | _ => none }
def queuesFullRow : OpenClaim := { program := "ytekcalpoghcefaa", sum := "104b391f08bd30f07d0f5f6fb96b215f4fed5868d91a55101caad1c887b7dfca", func := "timekeeper/timekeeperlaw11.QueuesFull", spec := "queuesFull", apart := false }
def QueuesFullSaid : Prop := queuesFullRow.holds Try.pinned (OpenSpec.ofChange queuesFullSpec)

/-- ITS FALSE NEIGHBOUR: 'it returns false'. Refute it at one input. -/
def queuesFullWrong : ChangeSpec := { name := "queuesFull", fn := fun _ => fun
  | [d1, d2, d3] => { results := [.lit (.bool false)], args := [d1, d2, d3] }
  | _ => none }
def QueuesFullWrongFalsely : Prop := queuesFullRow.holds Try.pinned (OpenSpec.ofChange queuesFullWrong)

/-- 'timekeeperlaw11.QueuesEnds': WHATEVER THE INPUT: true; the input reads as it did. -/
def queuesEndsSpec : ChangeSpec := { name := "queuesEnds", fn := fun _ => fun
  | [d1, d2] => { results := [.lit (.bool true)], args := [d1, d2] }
  | _ => none }
def queuesEndsRow : OpenClaim := { program := "ytekcalpoghcefaa", sum := "104b391f08bd30f07d0f5f6fb96b215f4fed5868d91a55101caad1c887b7dfca", func := "timekeeper/timekeeperlaw11.QueuesEnds", spec := "queuesEnds", apart := false }
def QueuesEndsSaid : Prop := queuesEndsRow.holds Try.pinned (OpenSpec.ofChange queuesEndsSpec)

/-- ITS FALSE NEIGHBOUR: 'it returns false'. Refute it at one input. -/
def queuesEndsWrong : ChangeSpec := { name := "queuesEnds", fn := fun _ => fun
  | [d1, d2] => { results := [.lit (.bool false)], args := [d1, d2] }
  | _ => none }
def QueuesEndsWrongFalsely : Prop := queuesEndsRow.holds Try.pinned (OpenSpec.ofChange queuesEndsWrong)

/-- 'timekeeperlaw11.QueuesTwo': WHATEVER THE INPUT: true; the input reads as it did. -/
def queuesTwoSpec : ChangeSpec := { name := "queuesTwo", fn := fun _ => fun
  | [d1, d2] => { results := [.lit (.bool true)], args := [d1, d2] }
  | _ => none }
def queuesTwoRow : OpenClaim := { program := "ytekcalpoghcefaa", sum := "104b391f08bd30f07d0f5f6fb96b215f4fed5868d91a55101caad1c887b7dfca", func := "timekeeper/timekeeperlaw11.QueuesTwo", spec := "queuesTwo", apart := false }
def QueuesTwoSaid : Prop := queuesTwoRow.holds Try.pinned (OpenSpec.ofChange queuesTwoSpec)

/-- ITS FALSE NEIGHBOUR: 'it returns false'. Refute it at one input. -/
def queuesTwoWrong : ChangeSpec := { name := "queuesTwo", fn := fun _ => fun
  | [d1, d2] => { results := [.lit (.bool false)], args := [d1, d2] }
  | _ => none }
def QueuesTwoWrongFalsely : Prop := queuesTwoRow.holds Try.pinned (OpenSpec.ofChange queuesTwoWrong)

/-- 'timekeeperlaw11.QueuesCount': WHATEVER THE INPUT: true; the input reads as it did. -/
def queuesCountSpec : ChangeSpec := { name := "queuesCount", fn := fun _ => fun
  | [d1, d2] => { results := [.lit (.bool true)], args := [d1, d2] }
  | _ => none }
def queuesCountRow : OpenClaim := { program := "ytekcalpoghcefaa", sum := "104b391f08bd30f07d0f5f6fb96b215f4fed5868d91a55101caad1c887b7dfca", func := "timekeeper/timekeeperlaw11.QueuesCount", spec := "queuesCount", apart := false }
def QueuesCountSaid : Prop := queuesCountRow.holds Try.pinned (OpenSpec.ofChange queuesCountSpec)

/-- ITS FALSE NEIGHBOUR: 'it returns false'. Refute it at one input. -/
def queuesCountWrong : ChangeSpec := { name := "queuesCount", fn := fun _ => fun
  | [d1, d2] => { results := [.lit (.bool false)], args := [d1, d2] }
  | _ => none }
def QueuesCountWrongFalsely : Prop := queuesCountRow.holds Try.pinned (OpenSpec.ofChange queuesCountWrong)

/- THE SECOND FORM. 'bulk': how many values and letters a reading holds, each counted each time it is reached (what is shared counts as often as it is met; a slice's spare places count too). A statement '..UptoSaid' is the law's where the arguments, and the package variables that the reading takes, are together of bulk at most 1048576: NARROWER than '..Said'. Prove '..Said' where nothing that the law and all that it calls make is longer than what came in: it says more and counts as full. Else prove '..UptoSaid'. A law counts once. -/
mutual
def uptoBulk {H : Type} : DataW H → Nat
  | .lit (.string bytes) => bytes.length + 1
  | .lit _ => 1
  | .nil => 1
  | .ptr d => uptoBulk d + 1
  | .slice elems spare => uptoBulkAll elems + uptoBulkAll spare + 1
  | .agg parts => uptoBulkAll parts + 1
  | .iface _ d => uptoBulk d + 1
  | .map entries => uptoBulkEntries entries + 1
  | .held _ => 1
def uptoBulkAll {H : Type} : List (DataW H) → Nat
  | [] => 0
  | d :: r => uptoBulk d + uptoBulkAll r
def uptoBulkEntries {H : Type} : List (Lit × DataW H) → Nat
  | [] => 0
  | x :: r => uptoBulkEntry x + uptoBulkEntries r
def uptoBulkEntry {H : Type} : Lit × DataW H → Nat
  | (.string bytes, d) => bytes.length + uptoBulk d + 1
  | (_, d) => uptoBulk d + 1
 end
def uptoSmall : (H : Type) → List (DataW H) → Bool := fun _ ds => decide (uptoBulkAll ds ≤ 1048576)
def OpenSpec.upto (s : _root_.Go.ChangeSpec) : _root_.Go.OpenSpec := { _root_.Go.OpenSpec.ofChange s with cond := some uptoSmall }

/-- 'timekeeperlaw11.QueuesNone', WHERE WHAT IT READS IS OF BULK AT MOST 1048576: true; the input reads as it did. -/
def queuesNoneUptoRow : OpenClaim := { program := "ytekcalpoghcefaa", sum := "104b391f08bd30f07d0f5f6fb96b215f4fed5868d91a55101caad1c887b7dfca", func := "timekeeper/timekeeperlaw11.QueuesNone", spec := "queuesNone", apart := false, narrowed := true }
def QueuesNoneUptoSaid : Prop := queuesNoneUptoRow.holds Try.pinned (OpenSpec.upto queuesNoneSpec)

/-- 'timekeeperlaw11.QueuesOrder', WHERE WHAT IT READS IS OF BULK AT MOST 1048576: true; the input reads as it did. -/
def queuesOrderUptoRow : OpenClaim := { program := "ytekcalpoghcefaa", sum := "104b391f08bd30f07d0f5f6fb96b215f4fed5868d91a55101caad1c887b7dfca", func := "timekeeper/timekeeperlaw11.QueuesOrder", spec := "queuesOrder", apart := false, narrowed := true }
def QueuesOrderUptoSaid : Prop := queuesOrderUptoRow.holds Try.pinned (OpenSpec.upto queuesOrderSpec)

/-- 'timekeeperlaw11.QueuesFull', WHERE WHAT IT READS IS OF BULK AT MOST 1048576: true; the input reads as it did. -/
def queuesFullUptoRow : OpenClaim := { program := "ytekcalpoghcefaa", sum := "104b391f08bd30f07d0f5f6fb96b215f4fed5868d91a55101caad1c887b7dfca", func := "timekeeper/timekeeperlaw11.QueuesFull", spec := "queuesFull", apart := false, narrowed := true }
def QueuesFullUptoSaid : Prop := queuesFullUptoRow.holds Try.pinned (OpenSpec.upto queuesFullSpec)

/-- 'timekeeperlaw11.QueuesEnds', WHERE WHAT IT READS IS OF BULK AT MOST 1048576: true; the input reads as it did. -/
def queuesEndsUptoRow : OpenClaim := { program := "ytekcalpoghcefaa", sum := "104b391f08bd30f07d0f5f6fb96b215f4fed5868d91a55101caad1c887b7dfca", func := "timekeeper/timekeeperlaw11.QueuesEnds", spec := "queuesEnds", apart := false, narrowed := true }
def QueuesEndsUptoSaid : Prop := queuesEndsUptoRow.holds Try.pinned (OpenSpec.upto queuesEndsSpec)

/-- 'timekeeperlaw11.QueuesTwo', WHERE WHAT IT READS IS OF BULK AT MOST 1048576: true; the input reads as it did. -/
def queuesTwoUptoRow : OpenClaim := { program := "ytekcalpoghcefaa", sum := "104b391f08bd30f07d0f5f6fb96b215f4fed5868d91a55101caad1c887b7dfca", func := "timekeeper/timekeeperlaw11.QueuesTwo", spec := "queuesTwo", apart := false, narrowed := true }
def QueuesTwoUptoSaid : Prop := queuesTwoUptoRow.holds Try.pinned (OpenSpec.upto queuesTwoSpec)

/-- 'timekeeperlaw11.QueuesCount', WHERE WHAT IT READS IS OF BULK AT MOST 1048576: true; the input reads as it did. -/
def queuesCountUptoRow : OpenClaim := { program := "ytekcalpoghcefaa", sum := "104b391f08bd30f07d0f5f6fb96b215f4fed5868d91a55101caad1c887b7dfca", func := "timekeeper/timekeeperlaw11.QueuesCount", spec := "queuesCount", apart := false, narrowed := true }
def QueuesCountUptoSaid : Prop := queuesCountUptoRow.holds Try.pinned (OpenSpec.upto queuesCountSpec)

end Rows
end Go.Proofs.Ytekcalpoghcefaa
