/-
  No cell of these rows narrows 'for every input' (looked for: loops, veiled, ifaces, maps, wideKeys, modest, calm, conditions, laid).
  DERIVED. THE GIVEN ROWS OF THIS SEAT. 6 by the template 'for every input the law returns true; each argument reads behind the call as it read before'; 0 by the template 'total and deterministic' (their statements: YtmjcanamfijdjaaTotals.lean).
  GIVEN WITH THE SEED: the statements are not yours to turn. If you find one false, say at which input.
  Laid BY PROGRAM, IN A SANDBOX (cutbox-rows.mjs): the forced cells as the released guide's own fill.sh prints them over the translation 6a3ed655fe7cc5c0… (all of the seat's roots in one cut). By AI agents, Wed Nov 11 2026. No macro, syntax, notation, axiom, sorry.
-/
import Derived.Test.YtmjcanamfijdjaaChecked
import GoSem.Claim
import GoSem.ClaimJoined
import GoSem.ClaimMapViews
import Derived.JoinedTies
import Derived.KernelRfl
namespace Go.Proofs.Ytmjcanamfijdjaa
/- THE CELL 'sum', in the pinned program and in every row, IS THE sha256 OF THE DUMP (.gsa) THAT YtmjcanamfijdjaaProg.lean LOADS. Nothing in Lean hashes anything: it is a label: what it is worth is what the hold of that sum in a sandbox is worth. -/
noncomputable def Try.pinned : Pinned := { name := "ytmjcanamfijdjaa", sum := "6a3ed655fe7cc5c0e47ee6ccbb06d140a09c0f5062a26ef73f7564dff9622129", checked := Try.checked }
namespace Rows
def none {H : Type} : Left H := { results := [], args := [] }

/-- 'timekeeperlaw07.RingsNone': WHATEVER THE INPUT: true; the input reads as it did. -/
def ringsNoneSpec : ChangeSpec := { name := "ringsNone", fn := fun _ => fun
  | [d] => { results := [.lit (.bool true)], args := [d] }
  | _ => none }
def ringsNoneRow : OpenClaim := { program := "ytmjcanamfijdjaa", sum := "6a3ed655fe7cc5c0e47ee6ccbb06d140a09c0f5062a26ef73f7564dff9622129", func := "timekeeper/timekeeperlaw07.RingsNone", spec := "ringsNone", apart := false }
def RingsNoneSaid : Prop := ringsNoneRow.holds Try.pinned (OpenSpec.ofChange ringsNoneSpec)

/-- ITS FALSE NEIGHBOUR: 'it returns false'. Refute it at one input. -/
def ringsNoneWrong : ChangeSpec := { name := "ringsNone", fn := fun _ => fun
  | [d] => { results := [.lit (.bool false)], args := [d] }
  | _ => none }
def RingsNoneWrongFalsely : Prop := ringsNoneRow.holds Try.pinned (OpenSpec.ofChange ringsNoneWrong)

/-- 'timekeeperlaw07.RingsOrder': WHATEVER THE INPUT: true; the input reads as it did. -/
def ringsOrderSpec : ChangeSpec := { name := "ringsOrder", fn := fun _ => fun
  | [d1, d2] => { results := [.lit (.bool true)], args := [d1, d2] }
  | _ => none }
def ringsOrderRow : OpenClaim := { program := "ytmjcanamfijdjaa", sum := "6a3ed655fe7cc5c0e47ee6ccbb06d140a09c0f5062a26ef73f7564dff9622129", func := "timekeeper/timekeeperlaw07.RingsOrder", spec := "ringsOrder", apart := false }
def RingsOrderSaid : Prop := ringsOrderRow.holds Try.pinned (OpenSpec.ofChange ringsOrderSpec)

/-- ITS FALSE NEIGHBOUR: 'it returns false'. Refute it at one input. -/
def ringsOrderWrong : ChangeSpec := { name := "ringsOrder", fn := fun _ => fun
  | [d1, d2] => { results := [.lit (.bool false)], args := [d1, d2] }
  | _ => none }
def RingsOrderWrongFalsely : Prop := ringsOrderRow.holds Try.pinned (OpenSpec.ofChange ringsOrderWrong)

/-- 'timekeeperlaw07.RingsRound': WHATEVER THE INPUT: true; the input reads as it did. -/
def ringsRoundSpec : ChangeSpec := { name := "ringsRound", fn := fun _ => fun
  | [d1, d2] => { results := [.lit (.bool true)], args := [d1, d2] }
  | _ => none }
def ringsRoundRow : OpenClaim := { program := "ytmjcanamfijdjaa", sum := "6a3ed655fe7cc5c0e47ee6ccbb06d140a09c0f5062a26ef73f7564dff9622129", func := "timekeeper/timekeeperlaw07.RingsRound", spec := "ringsRound", apart := false }
def RingsRoundSaid : Prop := ringsRoundRow.holds Try.pinned (OpenSpec.ofChange ringsRoundSpec)

/-- ITS FALSE NEIGHBOUR: 'it returns false'. Refute it at one input. -/
def ringsRoundWrong : ChangeSpec := { name := "ringsRound", fn := fun _ => fun
  | [d1, d2] => { results := [.lit (.bool false)], args := [d1, d2] }
  | _ => none }
def RingsRoundWrongFalsely : Prop := ringsRoundRow.holds Try.pinned (OpenSpec.ofChange ringsRoundWrong)

/-- 'timekeeperlaw07.RingsOnce': WHATEVER THE INPUT: true; the input reads as it did. -/
def ringsOnceSpec : ChangeSpec := { name := "ringsOnce", fn := fun _ => fun
  | [d1, d2] => { results := [.lit (.bool true)], args := [d1, d2] }
  | _ => none }
def ringsOnceRow : OpenClaim := { program := "ytmjcanamfijdjaa", sum := "6a3ed655fe7cc5c0e47ee6ccbb06d140a09c0f5062a26ef73f7564dff9622129", func := "timekeeper/timekeeperlaw07.RingsOnce", spec := "ringsOnce", apart := false }
def RingsOnceSaid : Prop := ringsOnceRow.holds Try.pinned (OpenSpec.ofChange ringsOnceSpec)

/-- ITS FALSE NEIGHBOUR: 'it returns false'. Refute it at one input. -/
def ringsOnceWrong : ChangeSpec := { name := "ringsOnce", fn := fun _ => fun
  | [d1, d2] => { results := [.lit (.bool false)], args := [d1, d2] }
  | _ => none }
def RingsOnceWrongFalsely : Prop := ringsOnceRow.holds Try.pinned (OpenSpec.ofChange ringsOnceWrong)

/-- 'timekeeperlaw07.RingsFull': WHATEVER THE INPUT: true; the input reads as it did. -/
def ringsFullSpec : ChangeSpec := { name := "ringsFull", fn := fun _ => fun
  | [d1, d2] => { results := [.lit (.bool true)], args := [d1, d2] }
  | _ => none }
def ringsFullRow : OpenClaim := { program := "ytmjcanamfijdjaa", sum := "6a3ed655fe7cc5c0e47ee6ccbb06d140a09c0f5062a26ef73f7564dff9622129", func := "timekeeper/timekeeperlaw07.RingsFull", spec := "ringsFull", apart := false }
def RingsFullSaid : Prop := ringsFullRow.holds Try.pinned (OpenSpec.ofChange ringsFullSpec)

/-- ITS FALSE NEIGHBOUR: 'it returns false'. Refute it at one input. -/
def ringsFullWrong : ChangeSpec := { name := "ringsFull", fn := fun _ => fun
  | [d1, d2] => { results := [.lit (.bool false)], args := [d1, d2] }
  | _ => none }
def RingsFullWrongFalsely : Prop := ringsFullRow.holds Try.pinned (OpenSpec.ofChange ringsFullWrong)

/-- 'timekeeperlaw07.RingsKeep': WHATEVER THE INPUT: true; the input reads as it did. -/
def ringsKeepSpec : ChangeSpec := { name := "ringsKeep", fn := fun _ => fun
  | [d1, d2, d3] => { results := [.lit (.bool true)], args := [d1, d2, d3] }
  | _ => none }
def ringsKeepRow : OpenClaim := { program := "ytmjcanamfijdjaa", sum := "6a3ed655fe7cc5c0e47ee6ccbb06d140a09c0f5062a26ef73f7564dff9622129", func := "timekeeper/timekeeperlaw07.RingsKeep", spec := "ringsKeep", apart := false }
def RingsKeepSaid : Prop := ringsKeepRow.holds Try.pinned (OpenSpec.ofChange ringsKeepSpec)

/-- ITS FALSE NEIGHBOUR: 'it returns false'. Refute it at one input. -/
def ringsKeepWrong : ChangeSpec := { name := "ringsKeep", fn := fun _ => fun
  | [d1, d2, d3] => { results := [.lit (.bool false)], args := [d1, d2, d3] }
  | _ => none }
def RingsKeepWrongFalsely : Prop := ringsKeepRow.holds Try.pinned (OpenSpec.ofChange ringsKeepWrong)

/- THE SECOND FORM. 'bulk': how many values and letters a reading holds, each counted each time it is reached (what is shared counts as often as it is met; a slice's spare places count too). A statement '..UptoSaid' is the law's where the arguments, and the package variables that the reading takes, are together of bulk at most 1048576: NARROWER than '..Said'. Prove '..Said' where nothing that the law and all that it calls make is longer than what came in: it says more and counts as full. Else prove '..UptoSaid'. A law counts once. -/
mutual
def uptoBulk {H : Type} : DataW H → Nat
  | .lit (.string bytes) => bytes.length + 1
  | .lit _ => 1
  | .nil => 1
  | .ptr d => uptoBulk d + 1
  | .slice elems spare => uptoBulkAll elems + uptoBulkAll spare + 1
  | .agg parts => uptoBulkAll parts + 1
  | .iface _ d => uptoBulk d + 1
  | .map entries => uptoBulkEntries entries + 1
  | .held _ => 1
def uptoBulkAll {H : Type} : List (DataW H) → Nat
  | [] => 0
  | d :: r => uptoBulk d + uptoBulkAll r
def uptoBulkEntries {H : Type} : List (Lit × DataW H) → Nat
  | [] => 0
  | x :: r => uptoBulkEntry x + uptoBulkEntries r
def uptoBulkEntry {H : Type} : Lit × DataW H → Nat
  | (.string bytes, d) => bytes.length + uptoBulk d + 1
  | (_, d) => uptoBulk d + 1
 end
def uptoSmall : (H : Type) → List (DataW H) → Bool := fun _ ds => decide (uptoBulkAll ds ≤ 1048576)
def OpenSpec.upto (s : _root_.Go.ChangeSpec) : _root_.Go.OpenSpec := { _root_.Go.OpenSpec.ofChange s with cond := some uptoSmall }

/-- 'timekeeperlaw07.RingsNone', WHERE WHAT IT READS IS OF BULK AT MOST 1048576: true; the input reads as it did. -/
def ringsNoneUptoRow : OpenClaim := { program := "ytmjcanamfijdjaa", sum := "6a3ed655fe7cc5c0e47ee6ccbb06d140a09c0f5062a26ef73f7564dff9622129", func := "timekeeper/timekeeperlaw07.RingsNone", spec := "ringsNone", apart := false, narrowed := true }
def RingsNoneUptoSaid : Prop := ringsNoneUptoRow.holds Try.pinned (OpenSpec.upto ringsNoneSpec)

/-- 'timekeeperlaw07.RingsOrder', WHERE WHAT IT READS IS OF BULK AT MOST 1048576: true; the input reads as it did. -/
def ringsOrderUptoRow : OpenClaim := { program := "ytmjcanamfijdjaa", sum := "6a3ed655fe7cc5c0e47ee6ccbb06d140a09c0f5062a26ef73f7564dff9622129", func := "timekeeper/timekeeperlaw07.RingsOrder", spec := "ringsOrder", apart := false, narrowed := true }
def RingsOrderUptoSaid : Prop := ringsOrderUptoRow.holds Try.pinned (OpenSpec.upto ringsOrderSpec)

/-- 'timekeeperlaw07.RingsRound', WHERE WHAT IT READS IS OF BULK AT MOST 1048576: true; the input reads as it did. -/
def ringsRoundUptoRow : OpenClaim := { program := "ytmjcanamfijdjaa", sum := "6a3ed655fe7cc5c0e47ee6ccbb06d140a09c0f5062a26ef73f7564dff9622129", func := "timekeeper/timekeeperlaw07.RingsRound", spec := "ringsRound", apart := false, narrowed := true }
def RingsRoundUptoSaid : Prop := ringsRoundUptoRow.holds Try.pinned (OpenSpec.upto ringsRoundSpec)

/-- 'timekeeperlaw07.RingsOnce', WHERE WHAT IT READS IS OF BULK AT MOST 1048576: true; the input reads as it did. -/
def ringsOnceUptoRow : OpenClaim := { program := "ytmjcanamfijdjaa", sum := "6a3ed655fe7cc5c0e47ee6ccbb06d140a09c0f5062a26ef73f7564dff9622129", func := "timekeeper/timekeeperlaw07.RingsOnce", spec := "ringsOnce", apart := false, narrowed := true }
def RingsOnceUptoSaid : Prop := ringsOnceUptoRow.holds Try.pinned (OpenSpec.upto ringsOnceSpec)

/-- 'timekeeperlaw07.RingsFull', WHERE WHAT IT READS IS OF BULK AT MOST 1048576: true; the input reads as it did. -/
def ringsFullUptoRow : OpenClaim := { program := "ytmjcanamfijdjaa", sum := "6a3ed655fe7cc5c0e47ee6ccbb06d140a09c0f5062a26ef73f7564dff9622129", func := "timekeeper/timekeeperlaw07.RingsFull", spec := "ringsFull", apart := false, narrowed := true }
def RingsFullUptoSaid : Prop := ringsFullUptoRow.holds Try.pinned (OpenSpec.upto ringsFullSpec)

/-- 'timekeeperlaw07.RingsKeep', WHERE WHAT IT READS IS OF BULK AT MOST 1048576: true; the input reads as it did. -/
def ringsKeepUptoRow : OpenClaim := { program := "ytmjcanamfijdjaa", sum := "6a3ed655fe7cc5c0e47ee6ccbb06d140a09c0f5062a26ef73f7564dff9622129", func := "timekeeper/timekeeperlaw07.RingsKeep", spec := "ringsKeep", apart := false, narrowed := true }
def RingsKeepUptoSaid : Prop := ringsKeepUptoRow.holds Try.pinned (OpenSpec.upto ringsKeepSpec)

end Rows
end Go.Proofs.Ytmjcanamfijdjaa
