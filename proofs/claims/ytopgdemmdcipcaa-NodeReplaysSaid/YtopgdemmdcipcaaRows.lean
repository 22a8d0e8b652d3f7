/-
  No cell of these rows narrows 'for every input' (looked for: loops, veiled, ifaces, maps, wideKeys, modest, calm, conditions, laid).
  DERIVED. THE GIVEN ROWS OF THIS SEAT. 7 by the template 'for every input the law returns true; each argument reads behind the call as it read before'; 0 by the template 'total and deterministic' (their statements: YtopgdemmdcipcaaTotals.lean).
  GIVEN WITH THE SEED: the statements are not yours to turn. If you find one false, say at which input.
  Laid BY PROGRAM, IN A SANDBOX (cutbox-rows.mjs): the forced cells as the released guide's own fill.sh prints them over the translation e6fce0328cd5bb3b… (all of the seat's roots in one cut). By AI agents, Wed Nov 11 2026. No macro, syntax, notation, axiom, sorry.
-/
import Derived.Test.YtopgdemmdcipcaaChecked
import GoSem.Claim
import GoSem.ClaimJoined
import GoSem.ClaimMapViews
import Derived.JoinedTies
import Derived.KernelRfl
namespace Go.Proofs.Ytopgdemmdcipcaa
/- THE CELL 'sum', in the pinned program and in every row, IS THE sha256 OF THE DUMP (.gsa) THAT YtopgdemmdcipcaaProg.lean LOADS. Nothing in Lean hashes anything: it is a label: what it is worth is what the hold of that sum in a sandbox is worth. -/
noncomputable def Try.pinned : Pinned := { name := "ytopgdemmdcipcaa", sum := "e6fce0328cd5bb3b4f242fcfa24cc4dbe9b9a4443ea8f7c9cb7aedb286d51524", checked := Try.checked }
namespace Rows
def none {H : Type} : Left H := { results := [], args := [] }

/-- 'januspostkeep.PostResults': WHATEVER THE INPUT: true; the input reads as it did. -/
def postResultsSpec : ChangeSpec := { name := "postResults", fn := fun _ => fun
  | [d1, d2] => { results := [.lit (.bool true)], args := [d1, d2] }
  | _ => none }
def postResultsRow : OpenClaim := { program := "ytopgdemmdcipcaa", sum := "e6fce0328cd5bb3b4f242fcfa24cc4dbe9b9a4443ea8f7c9cb7aedb286d51524", func := "januspost/januspostkeep.PostResults", spec := "postResults", apart := false }
def PostResultsSaid : Prop := postResultsRow.holds Try.pinned (OpenSpec.ofChange postResultsSpec)

/-- ITS FALSE NEIGHBOUR: 'it returns false'. Refute it at one input. -/
def postResultsWrong : ChangeSpec := { name := "postResults", fn := fun _ => fun
  | [d1, d2] => { results := [.lit (.bool false)], args := [d1, d2] }
  | _ => none }
def PostResultsWrongFalsely : Prop := postResultsRow.holds Try.pinned (OpenSpec.ofChange postResultsWrong)

/-- 'januspostlaw.NodeTakes': WHATEVER THE INPUT: true; the input reads as it did. -/
def nodeTakesSpec : ChangeSpec := { name := "nodeTakes", fn := fun _ => fun
  | [d1, d2, d3] => { results := [.lit (.bool true)], args := [d1, d2, d3] }
  | _ => none }
def nodeTakesRow : OpenClaim := { program := "ytopgdemmdcipcaa", sum := "e6fce0328cd5bb3b4f242fcfa24cc4dbe9b9a4443ea8f7c9cb7aedb286d51524", func := "januspost/januspostlaw.NodeTakes", spec := "nodeTakes", recurses := true, apart := false }
def NodeTakesSaid : Prop := nodeTakesRow.holds Try.pinned (OpenSpec.ofChange nodeTakesSpec)

/-- ITS FALSE NEIGHBOUR: 'it returns false'. Refute it at one input. -/
def nodeTakesWrong : ChangeSpec := { name := "nodeTakes", fn := fun _ => fun
  | [d1, d2, d3] => { results := [.lit (.bool false)], args := [d1, d2, d3] }
  | _ => none }
def NodeTakesWrongFalsely : Prop := nodeTakesRow.holds Try.pinned (OpenSpec.ofChange nodeTakesWrong)

/-- 'januspostkeep.NodeOnce': WHATEVER THE INPUT: true; the input reads as it did. -/
def nodeOnceSpec : ChangeSpec := { name := "nodeOnce", fn := fun _ => fun
  | [d1, d2, d3] => { results := [.lit (.bool true)], args := [d1, d2, d3] }
  | _ => none }
def nodeOnceRow : OpenClaim := { program := "ytopgdemmdcipcaa", sum := "e6fce0328cd5bb3b4f242fcfa24cc4dbe9b9a4443ea8f7c9cb7aedb286d51524", func := "januspost/januspostkeep.NodeOnce", spec := "nodeOnce", recurses := true, apart := false }
def NodeOnceSaid : Prop := nodeOnceRow.holds Try.pinned (OpenSpec.ofChange nodeOnceSpec)

/-- ITS FALSE NEIGHBOUR: 'it returns false'. Refute it at one input. -/
def nodeOnceWrong : ChangeSpec := { name := "nodeOnce", fn := fun _ => fun
  | [d1, d2, d3] => { results := [.lit (.bool false)], args := [d1, d2, d3] }
  | _ => none }
def NodeOnceWrongFalsely : Prop := nodeOnceRow.holds Try.pinned (OpenSpec.ofChange nodeOnceWrong)

/-- 'januspostkeep.NodeKeeps': WHATEVER THE INPUT: true; the input reads as it did. -/
def nodeKeepsSpec : ChangeSpec := { name := "nodeKeeps", fn := fun _ => fun
  | [d1, d2, d3] => { results := [.lit (.bool true)], args := [d1, d2, d3] }
  | _ => none }
def nodeKeepsRow : OpenClaim := { program := "ytopgdemmdcipcaa", sum := "e6fce0328cd5bb3b4f242fcfa24cc4dbe9b9a4443ea8f7c9cb7aedb286d51524", func := "januspost/januspostkeep.NodeKeeps", spec := "nodeKeeps", recurses := true, apart := false }
def NodeKeepsSaid : Prop := nodeKeepsRow.holds Try.pinned (OpenSpec.ofChange nodeKeepsSpec)

/-- ITS FALSE NEIGHBOUR: 'it returns false'. Refute it at one input. -/
def nodeKeepsWrong : ChangeSpec := { name := "nodeKeeps", fn := fun _ => fun
  | [d1, d2, d3] => { results := [.lit (.bool false)], args := [d1, d2, d3] }
  | _ => none }
def NodeKeepsWrongFalsely : Prop := nodeKeepsRow.holds Try.pinned (OpenSpec.ofChange nodeKeepsWrong)

/-- 'januspostkeep.NodeSorted': WHATEVER THE INPUT: true; the input reads as it did. -/
def nodeSortedSpec : ChangeSpec := { name := "nodeSorted", fn := fun _ => fun
  | [d1, d2] => { results := [.lit (.bool true)], args := [d1, d2] }
  | _ => none }
def nodeSortedRow : OpenClaim := { program := "ytopgdemmdcipcaa", sum := "e6fce0328cd5bb3b4f242fcfa24cc4dbe9b9a4443ea8f7c9cb7aedb286d51524", func := "januspost/januspostkeep.NodeSorted", spec := "nodeSorted", recurses := true, apart := false }
def NodeSortedSaid : Prop := nodeSortedRow.holds Try.pinned (OpenSpec.ofChange nodeSortedSpec)

/-- ITS FALSE NEIGHBOUR: 'it returns false'. Refute it at one input. -/
def nodeSortedWrong : ChangeSpec := { name := "nodeSorted", fn := fun _ => fun
  | [d1, d2] => { results := [.lit (.bool false)], args := [d1, d2] }
  | _ => none }
def NodeSortedWrongFalsely : Prop := nodeSortedRow.holds Try.pinned (OpenSpec.ofChange nodeSortedWrong)

/-- 'januspostlaw.NodeReplays': WHATEVER THE INPUT: true; the input reads as it did. -/
def nodeReplaysSpec : ChangeSpec := { name := "nodeReplays", fn := fun _ => fun
  | [d1, d2, d3] => { results := [.lit (.bool true)], args := [d1, d2, d3] }
  | _ => none }
def nodeReplaysRow : OpenClaim := { program := "ytopgdemmdcipcaa", sum := "e6fce0328cd5bb3b4f242fcfa24cc4dbe9b9a4443ea8f7c9cb7aedb286d51524", func := "januspost/januspostlaw.NodeReplays", spec := "nodeReplays", unfollowed := true, recurses := true, apart := false }
def NodeReplaysSaid : Prop := nodeReplaysRow.holds Try.pinned (OpenSpec.ofChange nodeReplaysSpec)

/-- ITS FALSE NEIGHBOUR: 'it returns false'. Refute it at one input. -/
def nodeReplaysWrong : ChangeSpec := { name := "nodeReplays", fn := fun _ => fun
  | [d1, d2, d3] => { results := [.lit (.bool false)], args := [d1, d2, d3] }
  | _ => none }
def NodeReplaysWrongFalsely : Prop := nodeReplaysRow.holds Try.pinned (OpenSpec.ofChange nodeReplaysWrong)

/-- 'januspostkeep.NodeLogs': WHATEVER THE INPUT: true; the input reads as it did. -/
def nodeLogsSpec : ChangeSpec := { name := "nodeLogs", fn := fun _ => fun
  | [d1, d2] => { results := [.lit (.bool true)], args := [d1, d2] }
  | _ => none }
def nodeLogsRow : OpenClaim := { program := "ytopgdemmdcipcaa", sum := "e6fce0328cd5bb3b4f242fcfa24cc4dbe9b9a4443ea8f7c9cb7aedb286d51524", func := "januspost/januspostkeep.NodeLogs", spec := "nodeLogs", recurses := true, apart := false }
def NodeLogsSaid : Prop := nodeLogsRow.holds Try.pinned (OpenSpec.ofChange nodeLogsSpec)

/-- ITS FALSE NEIGHBOUR: 'it returns false'. Refute it at one input. -/
def nodeLogsWrong : ChangeSpec := { name := "nodeLogs", fn := fun _ => fun
  | [d1, d2] => { results := [.lit (.bool false)], args := [d1, d2] }
  | _ => none }
def NodeLogsWrongFalsely : Prop := nodeLogsRow.holds Try.pinned (OpenSpec.ofChange nodeLogsWrong)

/- THE SECOND FORM. 'bulk': how many values and letters a reading holds, each counted each time it is reached (what is shared counts as often as it is met; a slice's spare places count too). A statement '..UptoSaid' is the law's where the arguments, and the package variables that the reading takes, are together of bulk at most 1048576: NARROWER than '..Said'. Prove '..Said' where nothing that the law and all that it calls make is longer than what came in: it says more and counts as full. Else prove '..UptoSaid'. A law counts once. -/
mutual
def uptoBulk {H : Type} : DataW H → Nat
  | .lit (.string bytes) => bytes.length + 1
  | .lit _ => 1
  | .nil => 1
  | .ptr d => uptoBulk d + 1
  | .slice elems spare => uptoBulkAll elems + uptoBulkAll spare + 1
  | .agg parts => uptoBulkAll parts + 1
  | .iface _ d => uptoBulk d + 1
  | .map entries => uptoBulkEntries entries + 1
  | .held _ => 1
def uptoBulkAll {H : Type} : List (DataW H) → Nat
  | [] => 0
  | d :: r => uptoBulk d + uptoBulkAll r
def uptoBulkEntries {H : Type} : List (Lit × DataW H) → Nat
  | [] => 0
  | x :: r => uptoBulkEntry x + uptoBulkEntries r
def uptoBulkEntry {H : Type} : Lit × DataW H → Nat
  | (.string bytes, d) => bytes.length + uptoBulk d + 1
  | (_, d) => uptoBulk d + 1
 end
def uptoSmall : (H : Type) → List (DataW H) → Bool := fun _ ds => decide (uptoBulkAll ds ≤ 1048576)
def OpenSpec.upto (s : _root_.Go.ChangeSpec) : _root_.Go.OpenSpec := { _root_.Go.OpenSpec.ofChange s with cond := some uptoSmall }

/-- 'januspostkeep.PostResults', WHERE WHAT IT READS IS OF BULK AT MOST 1048576: true; the input reads as it did. -/
def postResultsUptoRow : OpenClaim := { program := "ytopgdemmdcipcaa", sum := "e6fce0328cd5bb3b4f242fcfa24cc4dbe9b9a4443ea8f7c9cb7aedb286d51524", func := "januspost/januspostkeep.PostResults", spec := "postResults", apart := false, narrowed := true }
def PostResultsUptoSaid : Prop := postResultsUptoRow.holds Try.pinned (OpenSpec.upto postResultsSpec)

/-- 'januspostlaw.NodeTakes', WHERE WHAT IT READS IS OF BULK AT MOST 1048576: true; the input reads as it did. -/
def nodeTakesUptoRow : OpenClaim := { program := "ytopgdemmdcipcaa", sum := "e6fce0328cd5bb3b4f242fcfa24cc4dbe9b9a4443ea8f7c9cb7aedb286d51524", func := "januspost/januspostlaw.NodeTakes", spec := "nodeTakes", recurses := true, apart := false, narrowed := true }
def NodeTakesUptoSaid : Prop := nodeTakesUptoRow.holds Try.pinned (OpenSpec.upto nodeTakesSpec)

/-- 'januspostkeep.NodeOnce', WHERE WHAT IT READS IS OF BULK AT MOST 1048576: true; the input reads as it did. -/
def nodeOnceUptoRow : OpenClaim := { program := "ytopgdemmdcipcaa", sum := "e6fce0328cd5bb3b4f242fcfa24cc4dbe9b9a4443ea8f7c9cb7aedb286d51524", func := "januspost/januspostkeep.NodeOnce", spec := "nodeOnce", recurses := true, apart := false, narrowed := true }
def NodeOnceUptoSaid : Prop := nodeOnceUptoRow.holds Try.pinned (OpenSpec.upto nodeOnceSpec)

/-- 'januspostkeep.NodeKeeps', WHERE WHAT IT READS IS OF BULK AT MOST 1048576: true; the input reads as it did. -/
def nodeKeepsUptoRow : OpenClaim := { program := "ytopgdemmdcipcaa", sum := "e6fce0328cd5bb3b4f242fcfa24cc4dbe9b9a4443ea8f7c9cb7aedb286d51524", func := "januspost/januspostkeep.NodeKeeps", spec := "nodeKeeps", recurses := true, apart := false, narrowed := true }
def NodeKeepsUptoSaid : Prop := nodeKeepsUptoRow.holds Try.pinned (OpenSpec.upto nodeKeepsSpec)

/-- 'januspostkeep.NodeSorted', WHERE WHAT IT READS IS OF BULK AT MOST 1048576: true; the input reads as it did. -/
def nodeSortedUptoRow : OpenClaim := { program := "ytopgdemmdcipcaa", sum := "e6fce0328cd5bb3b4f242fcfa24cc4dbe9b9a4443ea8f7c9cb7aedb286d51524", func := "januspost/januspostkeep.NodeSorted", spec := "nodeSorted", recurses := true, apart := false, narrowed := true }
def NodeSortedUptoSaid : Prop := nodeSortedUptoRow.holds Try.pinned (OpenSpec.upto nodeSortedSpec)

/-- 'januspostlaw.NodeReplays', WHERE WHAT IT READS IS OF BULK AT MOST 1048576: true; the input reads as it did. -/
def nodeReplaysUptoRow : OpenClaim := { program := "ytopgdemmdcipcaa", sum := "e6fce0328cd5bb3b4f242fcfa24cc4dbe9b9a4443ea8f7c9cb7aedb286d51524", func := "januspost/januspostlaw.NodeReplays", spec := "nodeReplays", unfollowed := true, recurses := true, apart := false, narrowed := true }
def NodeReplaysUptoSaid : Prop := nodeReplaysUptoRow.holds Try.pinned (OpenSpec.upto nodeReplaysSpec)

/-- 'januspostkeep.NodeLogs', WHERE WHAT IT READS IS OF BULK AT MOST 1048576: true; the input reads as it did. -/
def nodeLogsUptoRow : OpenClaim := { program := "ytopgdemmdcipcaa", sum := "e6fce0328cd5bb3b4f242fcfa24cc4dbe9b9a4443ea8f7c9cb7aedb286d51524", func := "januspost/januspostkeep.NodeLogs", spec := "nodeLogs", recurses := true, apart := false, narrowed := true }
def NodeLogsUptoSaid : Prop := nodeLogsUptoRow.holds Try.pinned (OpenSpec.upto nodeLogsSpec)

end Rows
end Go.Proofs.Ytopgdemmdcipcaa
