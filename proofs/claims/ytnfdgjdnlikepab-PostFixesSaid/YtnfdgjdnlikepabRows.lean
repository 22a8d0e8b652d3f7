/-
  No cell of these rows narrows 'for every input' (looked for: loops, veiled, ifaces, maps, wideKeys, modest, calm, conditions, laid).
  DERIVED. THE GIVEN ROWS OF THIS SEAT. 12 by the template 'for every input the law returns true; each argument reads behind the call as it read before'; 0 by the template 'total and deterministic' (their statements: YtnfdgjdnlikepabTotals.lean).
  GIVEN WITH THE SEED: the statements are not yours to turn. If you find one false, say at which input.
  Laid BY PROGRAM, IN A SANDBOX (cutbox-rows.mjs): the forced cells as the released guide's own fill.sh prints them over the translation b65e0ccc8c9fe4a9… (all of the seat's roots in one cut). By AI agents, Wed Nov 11 2026. No macro, syntax, notation, axiom, sorry.
-/
import Derived.Test.YtnfdgjdnlikepabChecked
import GoSem.Claim
import GoSem.ClaimJoined
import GoSem.ClaimMapViews
import Derived.JoinedTies
import Derived.KernelRfl
namespace Go.Proofs.Ytnfdgjdnlikepab
/- THE CELL 'sum', in the pinned program and in every row, IS THE sha256 OF THE DUMP (.gsa) THAT YtnfdgjdnlikepabProg.lean LOADS. Nothing in Lean hashes anything: it is a label: what it is worth is what the hold of that sum in a sandbox is worth. -/
noncomputable def Try.pinned : Pinned := { name := "ytnfdgjdnlikepab", sum := "b65e0ccc8c9fe4a9bc34b51aa90b493648b569b2dabf1fc71df41003fdb8ec13", checked := Try.checked }
namespace Rows
def none {H : Type} : Left H := { results := [], args := [] }

/-- 'januspostkeep.GraphAhead': WHATEVER THE INPUT: true; the input reads as it did. -/
def graphAheadSpec : ChangeSpec := { name := "graphAhead", fn := fun _ => fun
  | [d1, d2] => { results := [.lit (.bool true)], args := [d1, d2] }
  | _ => none }
def graphAheadRow : OpenClaim := { program := "ytnfdgjdnlikepab", sum := "b65e0ccc8c9fe4a9bc34b51aa90b493648b569b2dabf1fc71df41003fdb8ec13", func := "januspost/januspostkeep.GraphAhead", spec := "graphAhead", recurses := true, apart := false }
def GraphAheadSaid : Prop := graphAheadRow.holds Try.pinned (OpenSpec.ofChange graphAheadSpec)

/-- ITS FALSE NEIGHBOUR: 'it returns false'. Refute it at one input. -/
def graphAheadWrong : ChangeSpec := { name := "graphAhead", fn := fun _ => fun
  | [d1, d2] => { results := [.lit (.bool false)], args := [d1, d2] }
  | _ => none }
def GraphAheadWrongFalsely : Prop := graphAheadRow.holds Try.pinned (OpenSpec.ofChange graphAheadWrong)

/-- 'januspostkeep.GraphParts': WHATEVER THE INPUT: true; the input reads as it did. -/
def graphPartsSpec : ChangeSpec := { name := "graphParts", fn := fun _ => fun
  | [d1, d2, d3] => { results := [.lit (.bool true)], args := [d1, d2, d3] }
  | _ => none }
def graphPartsRow : OpenClaim := { program := "ytnfdgjdnlikepab", sum := "b65e0ccc8c9fe4a9bc34b51aa90b493648b569b2dabf1fc71df41003fdb8ec13", func := "januspost/januspostkeep.GraphParts", spec := "graphParts", recurses := true, apart := false }
def GraphPartsSaid : Prop := graphPartsRow.holds Try.pinned (OpenSpec.ofChange graphPartsSpec)

/-- ITS FALSE NEIGHBOUR: 'it returns false'. Refute it at one input. -/
def graphPartsWrong : ChangeSpec := { name := "graphParts", fn := fun _ => fun
  | [d1, d2, d3] => { results := [.lit (.bool false)], args := [d1, d2, d3] }
  | _ => none }
def GraphPartsWrongFalsely : Prop := graphPartsRow.holds Try.pinned (OpenSpec.ofChange graphPartsWrong)

/-- 'januspostkeep.GraphStays': WHATEVER THE INPUT: true; the input reads as it did. -/
def graphStaysSpec : ChangeSpec := { name := "graphStays", fn := fun _ => fun
  | [d1, d2, d3, d4] => { results := [.lit (.bool true)], args := [d1, d2, d3, d4] }
  | _ => none }
def graphStaysRow : OpenClaim := { program := "ytnfdgjdnlikepab", sum := "b65e0ccc8c9fe4a9bc34b51aa90b493648b569b2dabf1fc71df41003fdb8ec13", func := "januspost/januspostkeep.GraphStays", spec := "graphStays", recurses := true, apart := false }
def GraphStaysSaid : Prop := graphStaysRow.holds Try.pinned (OpenSpec.ofChange graphStaysSpec)

/-- ITS FALSE NEIGHBOUR: 'it returns false'. Refute it at one input. -/
def graphStaysWrong : ChangeSpec := { name := "graphStays", fn := fun _ => fun
  | [d1, d2, d3, d4] => { results := [.lit (.bool false)], args := [d1, d2, d3, d4] }
  | _ => none }
def GraphStaysWrongFalsely : Prop := graphStaysRow.holds Try.pinned (OpenSpec.ofChange graphStaysWrong)

/-- 'janusposttop.TopAhead': WHATEVER THE INPUT: true; the input reads as it did. -/
def topAheadSpec : ChangeSpec := { name := "topAhead", fn := fun _ => fun
  | [d] => { results := [.lit (.bool true)], args := [d] }
  | _ => none }
def topAheadRow : OpenClaim := { program := "ytnfdgjdnlikepab", sum := "b65e0ccc8c9fe4a9bc34b51aa90b493648b569b2dabf1fc71df41003fdb8ec13", func := "januspost/janusposttop.TopAhead", spec := "topAhead", unfollowed := true, recurses := true, apart := false }
def TopAheadSaid : Prop := topAheadRow.holds Try.pinned (OpenSpec.ofChange topAheadSpec)

/-- ITS FALSE NEIGHBOUR: 'it returns false'. Refute it at one input. -/
def topAheadWrong : ChangeSpec := { name := "topAhead", fn := fun _ => fun
  | [d] => { results := [.lit (.bool false)], args := [d] }
  | _ => none }
def TopAheadWrongFalsely : Prop := topAheadRow.holds Try.pinned (OpenSpec.ofChange topAheadWrong)

/-- 'januspostlaw.WireReads': WHATEVER THE INPUT: true; the input reads as it did. -/
def wireReadsSpec : ChangeSpec := { name := "wireReads", fn := fun _ => fun
  | [d] => { results := [.lit (.bool true)], args := [d] }
  | _ => none }
def wireReadsRow : OpenClaim := { program := "ytnfdgjdnlikepab", sum := "b65e0ccc8c9fe4a9bc34b51aa90b493648b569b2dabf1fc71df41003fdb8ec13", func := "januspost/januspostlaw.WireReads", spec := "wireReads", unfollowed := true, recurses := true, apart := false }
def WireReadsSaid : Prop := wireReadsRow.holds Try.pinned (OpenSpec.ofChange wireReadsSpec)

/-- ITS FALSE NEIGHBOUR: 'it returns false'. Refute it at one input. -/
def wireReadsWrong : ChangeSpec := { name := "wireReads", fn := fun _ => fun
  | [d] => { results := [.lit (.bool false)], args := [d] }
  | _ => none }
def WireReadsWrongFalsely : Prop := wireReadsRow.holds Try.pinned (OpenSpec.ofChange wireReadsWrong)

/-- 'januspostkeep.WireBack': WHATEVER THE INPUT: true; the input reads as it did. -/
def wireBackSpec : ChangeSpec := { name := "wireBack", fn := fun _ => fun
  | [d1, d2] => { results := [.lit (.bool true)], args := [d1, d2] }
  | _ => none }
def wireBackRow : OpenClaim := { program := "ytnfdgjdnlikepab", sum := "b65e0ccc8c9fe4a9bc34b51aa90b493648b569b2dabf1fc71df41003fdb8ec13", func := "januspost/januspostkeep.WireBack", spec := "wireBack", apart := false }
def WireBackSaid : Prop := wireBackRow.holds Try.pinned (OpenSpec.ofChange wireBackSpec)

/-- ITS FALSE NEIGHBOUR: 'it returns false'. Refute it at one input. -/
def wireBackWrong : ChangeSpec := { name := "wireBack", fn := fun _ => fun
  | [d1, d2] => { results := [.lit (.bool false)], args := [d1, d2] }
  | _ => none }
def WireBackWrongFalsely : Prop := wireBackRow.holds Try.pinned (OpenSpec.ofChange wireBackWrong)

/-- 'januspostkeep.WireOnly': WHATEVER THE INPUT: true; the input reads as it did. -/
def wireOnlySpec : ChangeSpec := { name := "wireOnly", fn := fun _ => fun
  | [d] => { results := [.lit (.bool true)], args := [d] }
  | _ => none }
def wireOnlyRow : OpenClaim := { program := "ytnfdgjdnlikepab", sum := "b65e0ccc8c9fe4a9bc34b51aa90b493648b569b2dabf1fc71df41003fdb8ec13", func := "januspost/januspostkeep.WireOnly", spec := "wireOnly", apart := false }
def WireOnlySaid : Prop := wireOnlyRow.holds Try.pinned (OpenSpec.ofChange wireOnlySpec)

/-- ITS FALSE NEIGHBOUR: 'it returns false'. Refute it at one input. -/
def wireOnlyWrong : ChangeSpec := { name := "wireOnly", fn := fun _ => fun
  | [d] => { results := [.lit (.bool false)], args := [d] }
  | _ => none }
def WireOnlyWrongFalsely : Prop := wireOnlyRow.holds Try.pinned (OpenSpec.ofChange wireOnlyWrong)

/-- 'januspostlaw.PostTakes': WHATEVER THE INPUT: true; the input reads as it did. -/
def postTakesSpec : ChangeSpec := { name := "postTakes", fn := fun _ => fun
  | [d1, d2, d3] => { results := [.lit (.bool true)], args := [d1, d2, d3] }
  | _ => none }
def postTakesRow : OpenClaim := { program := "ytnfdgjdnlikepab", sum := "b65e0ccc8c9fe4a9bc34b51aa90b493648b569b2dabf1fc71df41003fdb8ec13", func := "januspost/januspostlaw.PostTakes", spec := "postTakes", apart := false }
def PostTakesSaid : Prop := postTakesRow.holds Try.pinned (OpenSpec.ofChange postTakesSpec)

/-- ITS FALSE NEIGHBOUR: 'it returns false'. Refute it at one input. -/
def postTakesWrong : ChangeSpec := { name := "postTakes", fn := fun _ => fun
  | [d1, d2, d3] => { results := [.lit (.bool false)], args := [d1, d2, d3] }
  | _ => none }
def PostTakesWrongFalsely : Prop := postTakesRow.holds Try.pinned (OpenSpec.ofChange postTakesWrong)

/-- 'janusposttop.TopSame': WHATEVER THE INPUT: true; the input reads as it did. -/
def topSameSpec : ChangeSpec := { name := "topSame", fn := fun _ => fun
  | [d] => { results := [.lit (.bool true)], args := [d] }
  | _ => none }
def topSameRow : OpenClaim := { program := "ytnfdgjdnlikepab", sum := "b65e0ccc8c9fe4a9bc34b51aa90b493648b569b2dabf1fc71df41003fdb8ec13", func := "januspost/janusposttop.TopSame", spec := "topSame", unfollowed := true, recurses := true, apart := false }
def TopSameSaid : Prop := topSameRow.holds Try.pinned (OpenSpec.ofChange topSameSpec)

/-- ITS FALSE NEIGHBOUR: 'it returns false'. Refute it at one input. -/
def topSameWrong : ChangeSpec := { name := "topSame", fn := fun _ => fun
  | [d] => { results := [.lit (.bool false)], args := [d] }
  | _ => none }
def TopSameWrongFalsely : Prop := topSameRow.holds Try.pinned (OpenSpec.ofChange topSameWrong)

/-- 'januspostkeep.PostFixes': WHATEVER THE INPUT: true; the input reads as it did. -/
def postFixesSpec : ChangeSpec := { name := "postFixes", fn := fun _ => fun
  | [d1, d2] => { results := [.lit (.bool true)], args := [d1, d2] }
  | _ => none }
def postFixesRow : OpenClaim := { program := "ytnfdgjdnlikepab", sum := "b65e0ccc8c9fe4a9bc34b51aa90b493648b569b2dabf1fc71df41003fdb8ec13", func := "januspost/januspostkeep.PostFixes", spec := "postFixes", apart := false }
def PostFixesSaid : Prop := postFixesRow.holds Try.pinned (OpenSpec.ofChange postFixesSpec)

/-- ITS FALSE NEIGHBOUR: 'it returns false'. Refute it at one input. -/
def postFixesWrong : ChangeSpec := { name := "postFixes", fn := fun _ => fun
  | [d1, d2] => { results := [.lit (.bool false)], args := [d1, d2] }
  | _ => none }
def PostFixesWrongFalsely : Prop := postFixesRow.holds Try.pinned (OpenSpec.ofChange postFixesWrong)

/-- 'januspostkeep.PostResults': WHATEVER THE INPUT: true; the input reads as it did. -/
def postResultsSpec : ChangeSpec := { name := "postResults", fn := fun _ => fun
  | [d1, d2] => { results := [.lit (.bool true)], args := [d1, d2] }
  | _ => none }
def postResultsRow : OpenClaim := { program := "ytnfdgjdnlikepab", sum := "b65e0ccc8c9fe4a9bc34b51aa90b493648b569b2dabf1fc71df41003fdb8ec13", func := "januspost/januspostkeep.PostResults", spec := "postResults", apart := false }
def PostResultsSaid : Prop := postResultsRow.holds Try.pinned (OpenSpec.ofChange postResultsSpec)

/-- ITS FALSE NEIGHBOUR: 'it returns false'. Refute it at one input. -/
def postResultsWrong : ChangeSpec := { name := "postResults", fn := fun _ => fun
  | [d1, d2] => { results := [.lit (.bool false)], args := [d1, d2] }
  | _ => none }
def PostResultsWrongFalsely : Prop := postResultsRow.holds Try.pinned (OpenSpec.ofChange postResultsWrong)

/-- 'januspostlaw.NodeTakes': WHATEVER THE INPUT: true; the input reads as it did. -/
def nodeTakesSpec : ChangeSpec := { name := "nodeTakes", fn := fun _ => fun
  | [d1, d2, d3] => { results := [.lit (.bool true)], args := [d1, d2, d3] }
  | _ => none }
def nodeTakesRow : OpenClaim := { program := "ytnfdgjdnlikepab", sum := "b65e0ccc8c9fe4a9bc34b51aa90b493648b569b2dabf1fc71df41003fdb8ec13", func := "januspost/januspostlaw.NodeTakes", spec := "nodeTakes", recurses := true, apart := false }
def NodeTakesSaid : Prop := nodeTakesRow.holds Try.pinned (OpenSpec.ofChange nodeTakesSpec)

/-- ITS FALSE NEIGHBOUR: 'it returns false'. Refute it at one input. -/
def nodeTakesWrong : ChangeSpec := { name := "nodeTakes", fn := fun _ => fun
  | [d1, d2, d3] => { results := [.lit (.bool false)], args := [d1, d2, d3] }
  | _ => none }
def NodeTakesWrongFalsely : Prop := nodeTakesRow.holds Try.pinned (OpenSpec.ofChange nodeTakesWrong)

/- THE SECOND FORM. 'bulk': how many values and letters a reading holds, each counted each time it is reached (what is shared counts as often as it is met; a slice's spare places count too). A statement '..UptoSaid' is the law's where the arguments, and the package variables that the reading takes, are together of bulk at most 1048576: NARROWER than '..Said'. Prove '..Said' where nothing that the law and all that it calls make is longer than what came in: it says more and counts as full. Else prove '..UptoSaid'. A law counts once. -/
mutual
def uptoBulk {H : Type} : DataW H → Nat
  | .lit (.string bytes) => bytes.length + 1
  | .lit _ => 1
  | .nil => 1
  | .ptr d => uptoBulk d + 1
  | .slice elems spare => uptoBulkAll elems + uptoBulkAll spare + 1
  | .agg parts => uptoBulkAll parts + 1
  | .iface _ d => uptoBulk d + 1
  | .map entries => uptoBulkEntries entries + 1
  | .held _ => 1
def uptoBulkAll {H : Type} : List (DataW H) → Nat
  | [] => 0
  | d :: r => uptoBulk d + uptoBulkAll r
def uptoBulkEntries {H : Type} : List (Lit × DataW H) → Nat
  | [] => 0
  | x :: r => uptoBulkEntry x + uptoBulkEntries r
def uptoBulkEntry {H : Type} : Lit × DataW H → Nat
  | (.string bytes, d) => bytes.length + uptoBulk d + 1
  | (_, d) => uptoBulk d + 1
 end
def uptoSmall : (H : Type) → List (DataW H) → Bool := fun _ ds => decide (uptoBulkAll ds ≤ 1048576)
def OpenSpec.upto (s : _root_.Go.ChangeSpec) : _root_.Go.OpenSpec := { _root_.Go.OpenSpec.ofChange s with cond := some uptoSmall }

/-- 'januspostkeep.GraphAhead', WHERE WHAT IT READS IS OF BULK AT MOST 1048576: true; the input reads as it did. -/
def graphAheadUptoRow : OpenClaim := { program := "ytnfdgjdnlikepab", sum := "b65e0ccc8c9fe4a9bc34b51aa90b493648b569b2dabf1fc71df41003fdb8ec13", func := "januspost/januspostkeep.GraphAhead", spec := "graphAhead", recurses := true, apart := false, narrowed := true }
def GraphAheadUptoSaid : Prop := graphAheadUptoRow.holds Try.pinned (OpenSpec.upto graphAheadSpec)

/-- 'januspostkeep.GraphParts', WHERE WHAT IT READS IS OF BULK AT MOST 1048576: true; the input reads as it did. -/
def graphPartsUptoRow : OpenClaim := { program := "ytnfdgjdnlikepab", sum := "b65e0ccc8c9fe4a9bc34b51aa90b493648b569b2dabf1fc71df41003fdb8ec13", func := "januspost/januspostkeep.GraphParts", spec := "graphParts", recurses := true, apart := false, narrowed := true }
def GraphPartsUptoSaid : Prop := graphPartsUptoRow.holds Try.pinned (OpenSpec.upto graphPartsSpec)

/-- 'januspostkeep.GraphStays', WHERE WHAT IT READS IS OF BULK AT MOST 1048576: true; the input reads as it did. -/
def graphStaysUptoRow : OpenClaim := { program := "ytnfdgjdnlikepab", sum := "b65e0ccc8c9fe4a9bc34b51aa90b493648b569b2dabf1fc71df41003fdb8ec13", func := "januspost/januspostkeep.GraphStays", spec := "graphStays", recurses := true, apart := false, narrowed := true }
def GraphStaysUptoSaid : Prop := graphStaysUptoRow.holds Try.pinned (OpenSpec.upto graphStaysSpec)

/-- 'janusposttop.TopAhead', WHERE WHAT IT READS IS OF BULK AT MOST 1048576: true; the input reads as it did. -/
def topAheadUptoRow : OpenClaim := { program := "ytnfdgjdnlikepab", sum := "b65e0ccc8c9fe4a9bc34b51aa90b493648b569b2dabf1fc71df41003fdb8ec13", func := "januspost/janusposttop.TopAhead", spec := "topAhead", unfollowed := true, recurses := true, apart := false, narrowed := true }
def TopAheadUptoSaid : Prop := topAheadUptoRow.holds Try.pinned (OpenSpec.upto topAheadSpec)

/-- 'januspostlaw.WireReads', WHERE WHAT IT READS IS OF BULK AT MOST 1048576: true; the input reads as it did. -/
def wireReadsUptoRow : OpenClaim := { program := "ytnfdgjdnlikepab", sum := "b65e0ccc8c9fe4a9bc34b51aa90b493648b569b2dabf1fc71df41003fdb8ec13", func := "januspost/januspostlaw.WireReads", spec := "wireReads", unfollowed := true, recurses := true, apart := false, narrowed := true }
def WireReadsUptoSaid : Prop := wireReadsUptoRow.holds Try.pinned (OpenSpec.upto wireReadsSpec)

/-- 'januspostkeep.WireBack', WHERE WHAT IT READS IS OF BULK AT MOST 1048576: true; the input reads as it did. -/
def wireBackUptoRow : OpenClaim := { program := "ytnfdgjdnlikepab", sum := "b65e0ccc8c9fe4a9bc34b51aa90b493648b569b2dabf1fc71df41003fdb8ec13", func := "januspost/januspostkeep.WireBack", spec := "wireBack", apart := false, narrowed := true }
def WireBackUptoSaid : Prop := wireBackUptoRow.holds Try.pinned (OpenSpec.upto wireBackSpec)

/-- 'januspostkeep.WireOnly', WHERE WHAT IT READS IS OF BULK AT MOST 1048576: true; the input reads as it did. -/
def wireOnlyUptoRow : OpenClaim := { program := "ytnfdgjdnlikepab", sum := "b65e0ccc8c9fe4a9bc34b51aa90b493648b569b2dabf1fc71df41003fdb8ec13", func := "januspost/januspostkeep.WireOnly", spec := "wireOnly", apart := false, narrowed := true }
def WireOnlyUptoSaid : Prop := wireOnlyUptoRow.holds Try.pinned (OpenSpec.upto wireOnlySpec)

/-- 'januspostlaw.PostTakes', WHERE WHAT IT READS IS OF BULK AT MOST 1048576: true; the input reads as it did. -/
def postTakesUptoRow : OpenClaim := { program := "ytnfdgjdnlikepab", sum := "b65e0ccc8c9fe4a9bc34b51aa90b493648b569b2dabf1fc71df41003fdb8ec13", func := "januspost/januspostlaw.PostTakes", spec := "postTakes", apart := false, narrowed := true }
def PostTakesUptoSaid : Prop := postTakesUptoRow.holds Try.pinned (OpenSpec.upto postTakesSpec)

/-- 'janusposttop.TopSame', WHERE WHAT IT READS IS OF BULK AT MOST 1048576: true; the input reads as it did. -/
def topSameUptoRow : OpenClaim := { program := "ytnfdgjdnlikepab", sum := "b65e0ccc8c9fe4a9bc34b51aa90b493648b569b2dabf1fc71df41003fdb8ec13", func := "januspost/janusposttop.TopSame", spec := "topSame", unfollowed := true, recurses := true, apart := false, narrowed := true }
def TopSameUptoSaid : Prop := topSameUptoRow.holds Try.pinned (OpenSpec.upto topSameSpec)

/-- 'januspostkeep.PostFixes', WHERE WHAT IT READS IS OF BULK AT MOST 1048576: true; the input reads as it did. -/
def postFixesUptoRow : OpenClaim := { program := "ytnfdgjdnlikepab", sum := "b65e0ccc8c9fe4a9bc34b51aa90b493648b569b2dabf1fc71df41003fdb8ec13", func := "januspost/januspostkeep.PostFixes", spec := "postFixes", apart := false, narrowed := true }
def PostFixesUptoSaid : Prop := postFixesUptoRow.holds Try.pinned (OpenSpec.upto postFixesSpec)

/-- 'januspostkeep.PostResults', WHERE WHAT IT READS IS OF BULK AT MOST 1048576: true; the input reads as it did. -/
def postResultsUptoRow : OpenClaim := { program := "ytnfdgjdnlikepab", sum := "b65e0ccc8c9fe4a9bc34b51aa90b493648b569b2dabf1fc71df41003fdb8ec13", func := "januspost/januspostkeep.PostResults", spec := "postResults", apart := false, narrowed := true }
def PostResultsUptoSaid : Prop := postResultsUptoRow.holds Try.pinned (OpenSpec.upto postResultsSpec)

/-- 'januspostlaw.NodeTakes', WHERE WHAT IT READS IS OF BULK AT MOST 1048576: true; the input reads as it did. -/
def nodeTakesUptoRow : OpenClaim := { program := "ytnfdgjdnlikepab", sum := "b65e0ccc8c9fe4a9bc34b51aa90b493648b569b2dabf1fc71df41003fdb8ec13", func := "januspost/januspostlaw.NodeTakes", spec := "nodeTakes", recurses := true, apart := false, narrowed := true }
def NodeTakesUptoSaid : Prop := nodeTakesUptoRow.holds Try.pinned (OpenSpec.upto nodeTakesSpec)

end Rows
end Go.Proofs.Ytnfdgjdnlikepab
