/-
  No cell of these rows narrows 'for every input' (looked for: loops, veiled, ifaces, maps, wideKeys, modest, calm, conditions, laid).
  DERIVED. THE GIVEN ROWS OF THIS SEAT. 6 by the template 'for every input the law returns true; each argument reads behind the call as it read before'; 0 by the template 'total and deterministic' (their statements: YtlkmcdijioiddaaTotals.lean).
  GIVEN WITH THE SEED: the statements are not yours to turn. If you find one false, say at which input.
  Laid BY PROGRAM, IN A SANDBOX (cutbox-rows.mjs): the forced cells as the released guide's own fill.sh prints them over the translation 769ca5829be21364… (all of the seat's roots in one cut). By AI agents, Wed Nov 11 2026. No macro, syntax, notation, axiom, sorry.
-/
import Derived.Test.YtlkmcdijioiddaaChecked
import GoSem.Claim
import GoSem.ClaimJoined
import GoSem.ClaimMapViews
import Derived.JoinedTies
import Derived.KernelRfl
namespace Go.Proofs.Ytlkmcdijioiddaa
/- THE CELL 'sum', in the pinned program and in every row, IS THE sha256 OF THE DUMP (.gsa) THAT YtlkmcdijioiddaaProg.lean LOADS. Nothing in Lean hashes anything: it is a label: what it is worth is what the hold of that sum in a sandbox is worth. -/
noncomputable def Try.pinned : Pinned := { name := "ytlkmcdijioiddaa", sum := "769ca5829be21364c9dba421f42c26b3395e5b50cc1b027ee57146b4af998434", checked := Try.checked }
namespace Rows
def none {H : Type} : Left H := { results := [], args := [] }

/-- 'tallymanlaw20.AislesLoads': WHATEVER THE INPUT: true; the input reads as it did. -/
def aislesLoadsSpec : ChangeSpec := { name := "aislesLoads", fn := fun _ => fun
  | [d1, d2, d3] => { results := [.lit (.bool true)], args := [d1, d2, d3] }
  | _ => none }
def aislesLoadsRow : OpenClaim := { program := "ytlkmcdijioiddaa", sum := "769ca5829be21364c9dba421f42c26b3395e5b50cc1b027ee57146b4af998434", func := "tallyman/tallymanlaw20.AislesLoads", spec := "aislesLoads", unfollowed := true, recurses := true, apart := false }
def AislesLoadsSaid : Prop := aislesLoadsRow.holds Try.pinned (OpenSpec.ofChange aislesLoadsSpec)

/-- ITS FALSE NEIGHBOUR: 'it returns false'. Refute it at one input. -/
def aislesLoadsWrong : ChangeSpec := { name := "aislesLoads", fn := fun _ => fun
  | [d1, d2, d3] => { results := [.lit (.bool false)], args := [d1, d2, d3] }
  | _ => none }
def AislesLoadsWrongFalsely : Prop := aislesLoadsRow.holds Try.pinned (OpenSpec.ofChange aislesLoadsWrong)

/-- 'tallymanlaw23.BatchTurned': WHATEVER THE INPUT: true; the input reads as it did. -/
def batchTurnedSpec : ChangeSpec := { name := "batchTurned", fn := fun _ => fun
  | [d1, d2, d3, d4] => { results := [.lit (.bool true)], args := [d1, d2, d3, d4] }
  | _ => none }
def batchTurnedRow : OpenClaim := { program := "ytlkmcdijioiddaa", sum := "769ca5829be21364c9dba421f42c26b3395e5b50cc1b027ee57146b4af998434", func := "tallyman/tallymanlaw23.BatchTurned", spec := "batchTurned", unfollowed := true, recurses := true, apart := false }
def BatchTurnedSaid : Prop := batchTurnedRow.holds Try.pinned (OpenSpec.ofChange batchTurnedSpec)

/-- ITS FALSE NEIGHBOUR: 'it returns false'. Refute it at one input. -/
def batchTurnedWrong : ChangeSpec := { name := "batchTurned", fn := fun _ => fun
  | [d1, d2, d3, d4] => { results := [.lit (.bool false)], args := [d1, d2, d3, d4] }
  | _ => none }
def BatchTurnedWrongFalsely : Prop := batchTurnedRow.holds Try.pinned (OpenSpec.ofChange batchTurnedWrong)

/-- 'tallymanlaw23.BatchFull': WHATEVER THE INPUT: true; the input reads as it did. -/
def batchFullSpec : ChangeSpec := { name := "batchFull", fn := fun _ => fun
  | [d1, d2, d3] => { results := [.lit (.bool true)], args := [d1, d2, d3] }
  | _ => none }
def batchFullRow : OpenClaim := { program := "ytlkmcdijioiddaa", sum := "769ca5829be21364c9dba421f42c26b3395e5b50cc1b027ee57146b4af998434", func := "tallyman/tallymanlaw23.BatchFull", spec := "batchFull", unfollowed := true, recurses := true, apart := false }
def BatchFullSaid : Prop := batchFullRow.holds Try.pinned (OpenSpec.ofChange batchFullSpec)

/-- ITS FALSE NEIGHBOUR: 'it returns false'. Refute it at one input. -/
def batchFullWrong : ChangeSpec := { name := "batchFull", fn := fun _ => fun
  | [d1, d2, d3] => { results := [.lit (.bool false)], args := [d1, d2, d3] }
  | _ => none }
def BatchFullWrongFalsely : Prop := batchFullRow.holds Try.pinned (OpenSpec.ofChange batchFullWrong)

/-- 'tallymanlaw24.DagRuns': WHATEVER THE INPUT: true; the input reads as it did. -/
def dagRunsSpec : ChangeSpec := { name := "dagRuns", fn := fun _ => fun
  | [d] => { results := [.lit (.bool true)], args := [d] }
  | _ => none }
def dagRunsRow : OpenClaim := { program := "ytlkmcdijioiddaa", sum := "769ca5829be21364c9dba421f42c26b3395e5b50cc1b027ee57146b4af998434", func := "tallyman/tallymanlaw24.DagRuns", spec := "dagRuns", unfollowed := true, recurses := true, apart := false }
def DagRunsSaid : Prop := dagRunsRow.holds Try.pinned (OpenSpec.ofChange dagRunsSpec)

/-- ITS FALSE NEIGHBOUR: 'it returns false'. Refute it at one input. -/
def dagRunsWrong : ChangeSpec := { name := "dagRuns", fn := fun _ => fun
  | [d] => { results := [.lit (.bool false)], args := [d] }
  | _ => none }
def DagRunsWrongFalsely : Prop := dagRunsRow.holds Try.pinned (OpenSpec.ofChange dagRunsWrong)

/-- 'tallymanlaw24.DagSafe': WHATEVER THE INPUT: true; the input reads as it did. -/
def dagSafeSpec : ChangeSpec := { name := "dagSafe", fn := fun _ => fun
  | [d] => { results := [.lit (.bool true)], args := [d] }
  | _ => none }
def dagSafeRow : OpenClaim := { program := "ytlkmcdijioiddaa", sum := "769ca5829be21364c9dba421f42c26b3395e5b50cc1b027ee57146b4af998434", func := "tallyman/tallymanlaw24.DagSafe", spec := "dagSafe", unfollowed := true, recurses := true, apart := false }
def DagSafeSaid : Prop := dagSafeRow.holds Try.pinned (OpenSpec.ofChange dagSafeSpec)

/-- ITS FALSE NEIGHBOUR: 'it returns false'. Refute it at one input. -/
def dagSafeWrong : ChangeSpec := { name := "dagSafe", fn := fun _ => fun
  | [d] => { results := [.lit (.bool false)], args := [d] }
  | _ => none }
def DagSafeWrongFalsely : Prop := dagSafeRow.holds Try.pinned (OpenSpec.ofChange dagSafeWrong)

/-- 'tallymanlaw21.WaitsTables': WHATEVER THE INPUT: true; the input reads as it did. -/
def waitsTablesSpec : ChangeSpec := { name := "waitsTables", fn := fun _ => fun
  | [d1, d2] => { results := [.lit (.bool true)], args := [d1, d2] }
  | _ => none }
def waitsTablesRow : OpenClaim := { program := "ytlkmcdijioiddaa", sum := "769ca5829be21364c9dba421f42c26b3395e5b50cc1b027ee57146b4af998434", func := "tallyman/tallymanlaw21.WaitsTables", spec := "waitsTables", unfollowed := true, recurses := true, apart := false }
def WaitsTablesSaid : Prop := waitsTablesRow.holds Try.pinned (OpenSpec.ofChange waitsTablesSpec)

/-- ITS FALSE NEIGHBOUR: 'it returns false'. Refute it at one input. -/
def waitsTablesWrong : ChangeSpec := { name := "waitsTables", fn := fun _ => fun
  | [d1, d2] => { results := [.lit (.bool false)], args := [d1, d2] }
  | _ => none }
def WaitsTablesWrongFalsely : Prop := waitsTablesRow.holds Try.pinned (OpenSpec.ofChange waitsTablesWrong)

/- THE SECOND FORM. 'bulk': how many values and letters a reading holds, each counted each time it is reached (what is shared counts as often as it is met; a slice's spare places count too). A statement '..UptoSaid' is the law's where the arguments, and the package variables that the reading takes, are together of bulk at most 1048576: NARROWER than '..Said'. Prove '..Said' where nothing that the law and all that it calls make is longer than what came in: it says more and counts as full. Else prove '..UptoSaid'. A law counts once. -/
mutual
def uptoBulk {H : Type} : DataW H → Nat
  | .lit (.string bytes) => bytes.length + 1
  | .lit _ => 1
  | .nil => 1
  | .ptr d => uptoBulk d + 1
  | .slice elems spare => uptoBulkAll elems + uptoBulkAll spare + 1
  | .agg parts => uptoBulkAll parts + 1
  | .iface _ d => uptoBulk d + 1
  | .map entries => uptoBulkEntries entries + 1
  | .held _ => 1
def uptoBulkAll {H : Type} : List (DataW H) → Nat
  | [] => 0
  | d :: r => uptoBulk d + uptoBulkAll r
def uptoBulkEntries {H : Type} : List (Lit × DataW H) → Nat
  | [] => 0
  | x :: r => uptoBulkEntry x + uptoBulkEntries r
def uptoBulkEntry {H : Type} : Lit × DataW H → Nat
  | (.string bytes, d) => bytes.length + uptoBulk d + 1
  | (_, d) => uptoBulk d + 1
 end
def uptoSmall : (H : Type) → List (DataW H) → Bool := fun _ ds => decide (uptoBulkAll ds ≤ 1048576)
def OpenSpec.upto (s : _root_.Go.ChangeSpec) : _root_.Go.OpenSpec := { _root_.Go.OpenSpec.ofChange s with cond := some uptoSmall }

/-- 'tallymanlaw20.AislesLoads', WHERE WHAT IT READS IS OF BULK AT MOST 1048576: true; the input reads as it did. -/
def aislesLoadsUptoRow : OpenClaim := { program := "ytlkmcdijioiddaa", sum := "769ca5829be21364c9dba421f42c26b3395e5b50cc1b027ee57146b4af998434", func := "tallyman/tallymanlaw20.AislesLoads", spec := "aislesLoads", unfollowed := true, recurses := true, apart := false, narrowed := true }
def AislesLoadsUptoSaid : Prop := aislesLoadsUptoRow.holds Try.pinned (OpenSpec.upto aislesLoadsSpec)

/-- 'tallymanlaw23.BatchTurned', WHERE WHAT IT READS IS OF BULK AT MOST 1048576: true; the input reads as it did. -/
def batchTurnedUptoRow : OpenClaim := { program := "ytlkmcdijioiddaa", sum := "769ca5829be21364c9dba421f42c26b3395e5b50cc1b027ee57146b4af998434", func := "tallyman/tallymanlaw23.BatchTurned", spec := "batchTurned", unfollowed := true, recurses := true, apart := false, narrowed := true }
def BatchTurnedUptoSaid : Prop := batchTurnedUptoRow.holds Try.pinned (OpenSpec.upto batchTurnedSpec)

/-- 'tallymanlaw23.BatchFull', WHERE WHAT IT READS IS OF BULK AT MOST 1048576: true; the input reads as it did. -/
def batchFullUptoRow : OpenClaim := { program := "ytlkmcdijioiddaa", sum := "769ca5829be21364c9dba421f42c26b3395e5b50cc1b027ee57146b4af998434", func := "tallyman/tallymanlaw23.BatchFull", spec := "batchFull", unfollowed := true, recurses := true, apart := false, narrowed := true }
def BatchFullUptoSaid : Prop := batchFullUptoRow.holds Try.pinned (OpenSpec.upto batchFullSpec)

/-- 'tallymanlaw24.DagRuns', WHERE WHAT IT READS IS OF BULK AT MOST 1048576: true; the input reads as it did. -/
def dagRunsUptoRow : OpenClaim := { program := "ytlkmcdijioiddaa", sum := "769ca5829be21364c9dba421f42c26b3395e5b50cc1b027ee57146b4af998434", func := "tallyman/tallymanlaw24.DagRuns", spec := "dagRuns", unfollowed := true, recurses := true, apart := false, narrowed := true }
def DagRunsUptoSaid : Prop := dagRunsUptoRow.holds Try.pinned (OpenSpec.upto dagRunsSpec)

/-- 'tallymanlaw24.DagSafe', WHERE WHAT IT READS IS OF BULK AT MOST 1048576: true; the input reads as it did. -/
def dagSafeUptoRow : OpenClaim := { program := "ytlkmcdijioiddaa", sum := "769ca5829be21364c9dba421f42c26b3395e5b50cc1b027ee57146b4af998434", func := "tallyman/tallymanlaw24.DagSafe", spec := "dagSafe", unfollowed := true, recurses := true, apart := false, narrowed := true }
def DagSafeUptoSaid : Prop := dagSafeUptoRow.holds Try.pinned (OpenSpec.upto dagSafeSpec)

/-- 'tallymanlaw21.WaitsTables', WHERE WHAT IT READS IS OF BULK AT MOST 1048576: true; the input reads as it did. -/
def waitsTablesUptoRow : OpenClaim := { program := "ytlkmcdijioiddaa", sum := "769ca5829be21364c9dba421f42c26b3395e5b50cc1b027ee57146b4af998434", func := "tallyman/tallymanlaw21.WaitsTables", spec := "waitsTables", unfollowed := true, recurses := true, apart := false, narrowed := true }
def WaitsTablesUptoSaid : Prop := waitsTablesUptoRow.holds Try.pinned (OpenSpec.upto waitsTablesSpec)

end Rows
end Go.Proofs.Ytlkmcdijioiddaa
