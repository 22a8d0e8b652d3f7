/-
  No cell of these rows narrows 'for every input' (looked for: loops, veiled, ifaces, maps, wideKeys, modest, calm, conditions, laid).
  DERIVED. THE GIVEN ROWS OF THIS SEAT. 12 by the template 'for every input the law returns true; each argument reads behind the call as it read before'; 0 by the template 'total and deterministic' (their statements: YtnfdgjdnlikepaaTotals.lean).
  GIVEN WITH THE SEED: the statements are not yours to turn. If you find one false, say at which input.
  Laid BY PROGRAM, IN A SANDBOX (cutbox-rows.mjs): the forced cells as the released guide's own fill.sh prints them over the translation 2cae0e1ff9134efa… (all of the seat's roots in one cut). By AI agents, Wed Nov 11 2026. No macro, syntax, notation, axiom, sorry.
-/
import Derived.Test.YtnfdgjdnlikepaaChecked
import GoSem.Claim
import GoSem.ClaimJoined
import GoSem.ClaimMapViews
import Derived.JoinedTies
import Derived.KernelRfl
namespace Go.Proofs.Ytnfdgjdnlikepaa
/- THE CELL 'sum', in the pinned program and in every row, IS THE sha256 OF THE DUMP (.gsa) THAT YtnfdgjdnlikepaaProg.lean LOADS. Nothing in Lean hashes anything: it is a label: what it is worth is what the hold of that sum in a sandbox is worth. -/
noncomputable def Try.pinned : Pinned := { name := "ytnfdgjdnlikepaa", sum := "2cae0e1ff9134efaf4d2896f44394e7b6450387af9b997b77487a4127dc83995", checked := Try.checked }
namespace Rows
def none {H : Type} : Left H := { results := [], args := [] }

/-- 'januspostlaw.Names': WHATEVER THE INPUT: true; the input reads as it did. -/
def namesSpec : ChangeSpec := { name := "names", fn := fun _ => fun
  | [] => { results := [.lit (.bool true)], args := [] }
  | _ => none }
def namesRow : OpenClaim := { program := "ytnfdgjdnlikepaa", sum := "2cae0e1ff9134efaf4d2896f44394e7b6450387af9b997b77487a4127dc83995", func := "januspost/januspostlaw.Names", spec := "names", apart := false }
def NamesSaid : Prop := namesRow.holds Try.pinned (OpenSpec.ofChange namesSpec)

/-- ITS FALSE NEIGHBOUR: 'it returns false'. Refute it at one input. -/
def namesWrong : ChangeSpec := { name := "names", fn := fun _ => fun
  | [] => { results := [.lit (.bool false)], args := [] }
  | _ => none }
def NamesWrongFalsely : Prop := namesRow.holds Try.pinned (OpenSpec.ofChange namesWrong)

/-- 'januspostlaw.BookReads': WHATEVER THE INPUT: true; the input reads as it did. -/
def bookReadsSpec : ChangeSpec := { name := "bookReads", fn := fun _ => fun
  | [d] => { results := [.lit (.bool true)], args := [d] }
  | _ => none }
def bookReadsRow : OpenClaim := { program := "ytnfdgjdnlikepaa", sum := "2cae0e1ff9134efaf4d2896f44394e7b6450387af9b997b77487a4127dc83995", func := "januspost/januspostlaw.BookReads", spec := "bookReads", apart := false }
def BookReadsSaid : Prop := bookReadsRow.holds Try.pinned (OpenSpec.ofChange bookReadsSpec)

/-- ITS FALSE NEIGHBOUR: 'it returns false'. Refute it at one input. -/
def bookReadsWrong : ChangeSpec := { name := "bookReads", fn := fun _ => fun
  | [d] => { results := [.lit (.bool false)], args := [d] }
  | _ => none }
def BookReadsWrongFalsely : Prop := bookReadsRow.holds Try.pinned (OpenSpec.ofChange bookReadsWrong)

/-- 'januspostlaw.BookWrites': WHATEVER THE INPUT: true; the input reads as it did. -/
def bookWritesSpec : ChangeSpec := { name := "bookWrites", fn := fun _ => fun
  | [d1, d2, d3] => { results := [.lit (.bool true)], args := [d1, d2, d3] }
  | _ => none }
def bookWritesRow : OpenClaim := { program := "ytnfdgjdnlikepaa", sum := "2cae0e1ff9134efaf4d2896f44394e7b6450387af9b997b77487a4127dc83995", func := "januspost/januspostlaw.BookWrites", spec := "bookWrites", apart := false }
def BookWritesSaid : Prop := bookWritesRow.holds Try.pinned (OpenSpec.ofChange bookWritesSpec)

/-- ITS FALSE NEIGHBOUR: 'it returns false'. Refute it at one input. -/
def bookWritesWrong : ChangeSpec := { name := "bookWrites", fn := fun _ => fun
  | [d1, d2, d3] => { results := [.lit (.bool false)], args := [d1, d2, d3] }
  | _ => none }
def BookWritesWrongFalsely : Prop := bookWritesRow.holds Try.pinned (OpenSpec.ofChange bookWritesWrong)

/-- 'januspostkeep.BookTorn': WHATEVER THE INPUT: true; the input reads as it did. -/
def bookTornSpec : ChangeSpec := { name := "bookTorn", fn := fun _ => fun
  | [d1, d2, d3] => { results := [.lit (.bool true)], args := [d1, d2, d3] }
  | _ => none }
def bookTornRow : OpenClaim := { program := "ytnfdgjdnlikepaa", sum := "2cae0e1ff9134efaf4d2896f44394e7b6450387af9b997b77487a4127dc83995", func := "januspost/januspostkeep.BookTorn", spec := "bookTorn", apart := false }
def BookTornSaid : Prop := bookTornRow.holds Try.pinned (OpenSpec.ofChange bookTornSpec)

/-- ITS FALSE NEIGHBOUR: 'it returns false'. Refute it at one input. -/
def bookTornWrong : ChangeSpec := { name := "bookTorn", fn := fun _ => fun
  | [d1, d2, d3] => { results := [.lit (.bool false)], args := [d1, d2, d3] }
  | _ => none }
def BookTornWrongFalsely : Prop := bookTornRow.holds Try.pinned (OpenSpec.ofChange bookTornWrong)

/-- 'januspostlaw.TxnLists': WHATEVER THE INPUT: true; the input reads as it did. -/
def txnListsSpec : ChangeSpec := { name := "txnLists", fn := fun _ => fun
  | [d1, d2] => { results := [.lit (.bool true)], args := [d1, d2] }
  | _ => none }
def txnListsRow : OpenClaim := { program := "ytnfdgjdnlikepaa", sum := "2cae0e1ff9134efaf4d2896f44394e7b6450387af9b997b77487a4127dc83995", func := "januspost/januspostlaw.TxnLists", spec := "txnLists", apart := false }
def TxnListsSaid : Prop := txnListsRow.holds Try.pinned (OpenSpec.ofChange txnListsSpec)

/-- ITS FALSE NEIGHBOUR: 'it returns false'. Refute it at one input. -/
def txnListsWrong : ChangeSpec := { name := "txnLists", fn := fun _ => fun
  | [d1, d2] => { results := [.lit (.bool false)], args := [d1, d2] }
  | _ => none }
def TxnListsWrongFalsely : Prop := txnListsRow.holds Try.pinned (OpenSpec.ofChange txnListsWrong)

/-- 'januspostkeep.TxnUnions': WHATEVER THE INPUT: true; the input reads as it did. -/
def txnUnionsSpec : ChangeSpec := { name := "txnUnions", fn := fun _ => fun
  | [d1, d2, d3] => { results := [.lit (.bool true)], args := [d1, d2, d3] }
  | _ => none }
def txnUnionsRow : OpenClaim := { program := "ytnfdgjdnlikepaa", sum := "2cae0e1ff9134efaf4d2896f44394e7b6450387af9b997b77487a4127dc83995", func := "januspost/januspostkeep.TxnUnions", spec := "txnUnions", apart := false }
def TxnUnionsSaid : Prop := txnUnionsRow.holds Try.pinned (OpenSpec.ofChange txnUnionsSpec)

/-- ITS FALSE NEIGHBOUR: 'it returns false'. Refute it at one input. -/
def txnUnionsWrong : ChangeSpec := { name := "txnUnions", fn := fun _ => fun
  | [d1, d2, d3] => { results := [.lit (.bool false)], args := [d1, d2, d3] }
  | _ => none }
def TxnUnionsWrongFalsely : Prop := txnUnionsRow.holds Try.pinned (OpenSpec.ofChange txnUnionsWrong)

/-- 'januspostkeep.TxnBoth': WHATEVER THE INPUT: true; the input reads as it did. -/
def txnBothSpec : ChangeSpec := { name := "txnBoth", fn := fun _ => fun
  | [d1, d2, d3] => { results := [.lit (.bool true)], args := [d1, d2, d3] }
  | _ => none }
def txnBothRow : OpenClaim := { program := "ytnfdgjdnlikepaa", sum := "2cae0e1ff9134efaf4d2896f44394e7b6450387af9b997b77487a4127dc83995", func := "januspost/januspostkeep.TxnBoth", spec := "txnBoth", apart := false }
def TxnBothSaid : Prop := txnBothRow.holds Try.pinned (OpenSpec.ofChange txnBothSpec)

/-- ITS FALSE NEIGHBOUR: 'it returns false'. Refute it at one input. -/
def txnBothWrong : ChangeSpec := { name := "txnBoth", fn := fun _ => fun
  | [d1, d2, d3] => { results := [.lit (.bool false)], args := [d1, d2, d3] }
  | _ => none }
def TxnBothWrongFalsely : Prop := txnBothRow.holds Try.pinned (OpenSpec.ofChange txnBothWrong)

/-- 'januspostlaw.TxnTells': WHATEVER THE INPUT: true; the input reads as it did. -/
def txnTellsSpec : ChangeSpec := { name := "txnTells", fn := fun _ => fun
  | [d1, d2, d3, d4, d5] => { results := [.lit (.bool true)], args := [d1, d2, d3, d4, d5] }
  | _ => none }
def txnTellsRow : OpenClaim := { program := "ytnfdgjdnlikepaa", sum := "2cae0e1ff9134efaf4d2896f44394e7b6450387af9b997b77487a4127dc83995", func := "januspost/januspostlaw.TxnTells", spec := "txnTells", apart := false }
def TxnTellsSaid : Prop := txnTellsRow.holds Try.pinned (OpenSpec.ofChange txnTellsSpec)

/-- ITS FALSE NEIGHBOUR: 'it returns false'. Refute it at one input. -/
def txnTellsWrong : ChangeSpec := { name := "txnTells", fn := fun _ => fun
  | [d1, d2, d3, d4, d5] => { results := [.lit (.bool false)], args := [d1, d2, d3, d4, d5] }
  | _ => none }
def TxnTellsWrongFalsely : Prop := txnTellsRow.holds Try.pinned (OpenSpec.ofChange txnTellsWrong)

/-- 'januspostlaw.WireFrames': WHATEVER THE INPUT: true; the input reads as it did. -/
def wireFramesSpec : ChangeSpec := { name := "wireFrames", fn := fun _ => fun
  | [d] => { results := [.lit (.bool true)], args := [d] }
  | _ => none }
def wireFramesRow : OpenClaim := { program := "ytnfdgjdnlikepaa", sum := "2cae0e1ff9134efaf4d2896f44394e7b6450387af9b997b77487a4127dc83995", func := "januspost/januspostlaw.WireFrames", spec := "wireFrames", apart := false }
def WireFramesSaid : Prop := wireFramesRow.holds Try.pinned (OpenSpec.ofChange wireFramesSpec)

/-- ITS FALSE NEIGHBOUR: 'it returns false'. Refute it at one input. -/
def wireFramesWrong : ChangeSpec := { name := "wireFrames", fn := fun _ => fun
  | [d] => { results := [.lit (.bool false)], args := [d] }
  | _ => none }
def WireFramesWrongFalsely : Prop := wireFramesRow.holds Try.pinned (OpenSpec.ofChange wireFramesWrong)

/-- 'januspostlaw.PostBegins': WHATEVER THE INPUT: true; the input reads as it did. -/
def postBeginsSpec : ChangeSpec := { name := "postBegins", fn := fun _ => fun
  | [d1, d2, d3] => { results := [.lit (.bool true)], args := [d1, d2, d3] }
  | _ => none }
def postBeginsRow : OpenClaim := { program := "ytnfdgjdnlikepaa", sum := "2cae0e1ff9134efaf4d2896f44394e7b6450387af9b997b77487a4127dc83995", func := "januspost/januspostlaw.PostBegins", spec := "postBegins", apart := false }
def PostBeginsSaid : Prop := postBeginsRow.holds Try.pinned (OpenSpec.ofChange postBeginsSpec)

/-- ITS FALSE NEIGHBOUR: 'it returns false'. Refute it at one input. -/
def postBeginsWrong : ChangeSpec := { name := "postBegins", fn := fun _ => fun
  | [d1, d2, d3] => { results := [.lit (.bool false)], args := [d1, d2, d3] }
  | _ => none }
def PostBeginsWrongFalsely : Prop := postBeginsRow.holds Try.pinned (OpenSpec.ofChange postBeginsWrong)

/-- 'janusposttop.TopWakes': WHATEVER THE INPUT: true; the input reads as it did. -/
def topWakesSpec : ChangeSpec := { name := "topWakes", fn := fun _ => fun
  | [d1, d2] => { results := [.lit (.bool true)], args := [d1, d2] }
  | _ => none }
def topWakesRow : OpenClaim := { program := "ytnfdgjdnlikepaa", sum := "2cae0e1ff9134efaf4d2896f44394e7b6450387af9b997b77487a4127dc83995", func := "januspost/janusposttop.TopWakes", spec := "topWakes", unfollowed := true, recurses := true, apart := false }
def TopWakesSaid : Prop := topWakesRow.holds Try.pinned (OpenSpec.ofChange topWakesSpec)

/-- ITS FALSE NEIGHBOUR: 'it returns false'. Refute it at one input. -/
def topWakesWrong : ChangeSpec := { name := "topWakes", fn := fun _ => fun
  | [d1, d2] => { results := [.lit (.bool false)], args := [d1, d2] }
  | _ => none }
def TopWakesWrongFalsely : Prop := topWakesRow.holds Try.pinned (OpenSpec.ofChange topWakesWrong)

/-- 'januspostlaw.GraphOrders': WHATEVER THE INPUT: true; the input reads as it did. -/
def graphOrdersSpec : ChangeSpec := { name := "graphOrders", fn := fun _ => fun
  | [d1, d2] => { results := [.lit (.bool true)], args := [d1, d2] }
  | _ => none }
def graphOrdersRow : OpenClaim := { program := "ytnfdgjdnlikepaa", sum := "2cae0e1ff9134efaf4d2896f44394e7b6450387af9b997b77487a4127dc83995", func := "januspost/januspostlaw.GraphOrders", spec := "graphOrders", recurses := true, apart := false }
def GraphOrdersSaid : Prop := graphOrdersRow.holds Try.pinned (OpenSpec.ofChange graphOrdersSpec)

/-- ITS FALSE NEIGHBOUR: 'it returns false'. Refute it at one input. -/
def graphOrdersWrong : ChangeSpec := { name := "graphOrders", fn := fun _ => fun
  | [d1, d2] => { results := [.lit (.bool false)], args := [d1, d2] }
  | _ => none }
def GraphOrdersWrongFalsely : Prop := graphOrdersRow.holds Try.pinned (OpenSpec.ofChange graphOrdersWrong)

/- THE SECOND FORM. 'bulk': how many values and letters a reading holds, each counted each time it is reached (what is shared counts as often as it is met; a slice's spare places count too). A statement '..UptoSaid' is the law's where the arguments, and the package variables that the reading takes, are together of bulk at most 1048576: NARROWER than '..Said'. Prove '..Said' where nothing that the law and all that it calls make is longer than what came in: it says more and counts as full. Else prove '..UptoSaid'. A law counts once. -/
mutual
def uptoBulk {H : Type} : DataW H → Nat
  | .lit (.string bytes) => bytes.length + 1
  | .lit _ => 1
  | .nil => 1
  | .ptr d => uptoBulk d + 1
  | .slice elems spare => uptoBulkAll elems + uptoBulkAll spare + 1
  | .agg parts => uptoBulkAll parts + 1
  | .iface _ d => uptoBulk d + 1
  | .map entries => uptoBulkEntries entries + 1
  | .held _ => 1
def uptoBulkAll {H : Type} : List (DataW H) → Nat
  | [] => 0
  | d :: r => uptoBulk d + uptoBulkAll r
def uptoBulkEntries {H : Type} : List (Lit × DataW H) → Nat
  | [] => 0
  | x :: r => uptoBulkEntry x + uptoBulkEntries r
def uptoBulkEntry {H : Type} : Lit × DataW H → Nat
  | (.string bytes, d) => bytes.length + uptoBulk d + 1
  | (_, d) => uptoBulk d + 1
 end
def uptoSmall : (H : Type) → List (DataW H) → Bool := fun _ ds => decide (uptoBulkAll ds ≤ 1048576)
def OpenSpec.upto (s : _root_.Go.ChangeSpec) : _root_.Go.OpenSpec := { _root_.Go.OpenSpec.ofChange s with cond := some uptoSmall }

/-- 'januspostlaw.Names', WHERE WHAT IT READS IS OF BULK AT MOST 1048576: true; the input reads as it did. -/
def namesUptoRow : OpenClaim := { program := "ytnfdgjdnlikepaa", sum := "2cae0e1ff9134efaf4d2896f44394e7b6450387af9b997b77487a4127dc83995", func := "januspost/januspostlaw.Names", spec := "names", apart := false, narrowed := true }
def NamesUptoSaid : Prop := namesUptoRow.holds Try.pinned (OpenSpec.upto namesSpec)

/-- 'januspostlaw.BookReads', WHERE WHAT IT READS IS OF BULK AT MOST 1048576: true; the input reads as it did. -/
def bookReadsUptoRow : OpenClaim := { program := "ytnfdgjdnlikepaa", sum := "2cae0e1ff9134efaf4d2896f44394e7b6450387af9b997b77487a4127dc83995", func := "januspost/januspostlaw.BookReads", spec := "bookReads", apart := false, narrowed := true }
def BookReadsUptoSaid : Prop := bookReadsUptoRow.holds Try.pinned (OpenSpec.upto bookReadsSpec)

/-- 'januspostlaw.BookWrites', WHERE WHAT IT READS IS OF BULK AT MOST 1048576: true; the input reads as it did. -/
def bookWritesUptoRow : OpenClaim := { program := "ytnfdgjdnlikepaa", sum := "2cae0e1ff9134efaf4d2896f44394e7b6450387af9b997b77487a4127dc83995", func := "januspost/januspostlaw.BookWrites", spec := "bookWrites", apart := false, narrowed := true }
def BookWritesUptoSaid : Prop := bookWritesUptoRow.holds Try.pinned (OpenSpec.upto bookWritesSpec)

/-- 'januspostkeep.BookTorn', WHERE WHAT IT READS IS OF BULK AT MOST 1048576: true; the input reads as it did. -/
def bookTornUptoRow : OpenClaim := { program := "ytnfdgjdnlikepaa", sum := "2cae0e1ff9134efaf4d2896f44394e7b6450387af9b997b77487a4127dc83995", func := "januspost/januspostkeep.BookTorn", spec := "bookTorn", apart := false, narrowed := true }
def BookTornUptoSaid : Prop := bookTornUptoRow.holds Try.pinned (OpenSpec.upto bookTornSpec)

/-- 'januspostlaw.TxnLists', WHERE WHAT IT READS IS OF BULK AT MOST 1048576: true; the input reads as it did. -/
def txnListsUptoRow : OpenClaim := { program := "ytnfdgjdnlikepaa", sum := "2cae0e1ff9134efaf4d2896f44394e7b6450387af9b997b77487a4127dc83995", func := "januspost/januspostlaw.TxnLists", spec := "txnLists", apart := false, narrowed := true }
def TxnListsUptoSaid : Prop := txnListsUptoRow.holds Try.pinned (OpenSpec.upto txnListsSpec)

/-- 'januspostkeep.TxnUnions', WHERE WHAT IT READS IS OF BULK AT MOST 1048576: true; the input reads as it did. -/
def txnUnionsUptoRow : OpenClaim := { program := "ytnfdgjdnlikepaa", sum := "2cae0e1ff9134efaf4d2896f44394e7b6450387af9b997b77487a4127dc83995", func := "januspost/januspostkeep.TxnUnions", spec := "txnUnions", apart := false, narrowed := true }
def TxnUnionsUptoSaid : Prop := txnUnionsUptoRow.holds Try.pinned (OpenSpec.upto txnUnionsSpec)

/-- 'januspostkeep.TxnBoth', WHERE WHAT IT READS IS OF BULK AT MOST 1048576: true; the input reads as it did. -/
def txnBothUptoRow : OpenClaim := { program := "ytnfdgjdnlikepaa", sum := "2cae0e1ff9134efaf4d2896f44394e7b6450387af9b997b77487a4127dc83995", func := "januspost/januspostkeep.TxnBoth", spec := "txnBoth", apart := false, narrowed := true }
def TxnBothUptoSaid : Prop := txnBothUptoRow.holds Try.pinned (OpenSpec.upto txnBothSpec)

/-- 'januspostlaw.TxnTells', WHERE WHAT IT READS IS OF BULK AT MOST 1048576: true; the input reads as it did. -/
def txnTellsUptoRow : OpenClaim := { program := "ytnfdgjdnlikepaa", sum := "2cae0e1ff9134efaf4d2896f44394e7b6450387af9b997b77487a4127dc83995", func := "januspost/januspostlaw.TxnTells", spec := "txnTells", apart := false, narrowed := true }
def TxnTellsUptoSaid : Prop := txnTellsUptoRow.holds Try.pinned (OpenSpec.upto txnTellsSpec)

/-- 'januspostlaw.WireFrames', WHERE WHAT IT READS IS OF BULK AT MOST 1048576: true; the input reads as it did. -/
def wireFramesUptoRow : OpenClaim := { program := "ytnfdgjdnlikepaa", sum := "2cae0e1ff9134efaf4d2896f44394e7b6450387af9b997b77487a4127dc83995", func := "januspost/januspostlaw.WireFrames", spec := "wireFrames", apart := false, narrowed := true }
def WireFramesUptoSaid : Prop := wireFramesUptoRow.holds Try.pinned (OpenSpec.upto wireFramesSpec)

/-- 'januspostlaw.PostBegins', WHERE WHAT IT READS IS OF BULK AT MOST 1048576: true; the input reads as it did. -/
def postBeginsUptoRow : OpenClaim := { program := "ytnfdgjdnlikepaa", sum := "2cae0e1ff9134efaf4d2896f44394e7b6450387af9b997b77487a4127dc83995", func := "januspost/januspostlaw.PostBegins", spec := "postBegins", apart := false, narrowed := true }
def PostBeginsUptoSaid : Prop := postBeginsUptoRow.holds Try.pinned (OpenSpec.upto postBeginsSpec)

/-- 'janusposttop.TopWakes', WHERE WHAT IT READS IS OF BULK AT MOST 1048576: true; the input reads as it did. -/
def topWakesUptoRow : OpenClaim := { program := "ytnfdgjdnlikepaa", sum := "2cae0e1ff9134efaf4d2896f44394e7b6450387af9b997b77487a4127dc83995", func := "januspost/janusposttop.TopWakes", spec := "topWakes", unfollowed := true, recurses := true, apart := false, narrowed := true }
def TopWakesUptoSaid : Prop := topWakesUptoRow.holds Try.pinned (OpenSpec.upto topWakesSpec)

/-- 'januspostlaw.GraphOrders', WHERE WHAT IT READS IS OF BULK AT MOST 1048576: true; the input reads as it did. -/
def graphOrdersUptoRow : OpenClaim := { program := "ytnfdgjdnlikepaa", sum := "2cae0e1ff9134efaf4d2896f44394e7b6450387af9b997b77487a4127dc83995", func := "januspost/januspostlaw.GraphOrders", spec := "graphOrders", recurses := true, apart := false, narrowed := true }
def GraphOrdersUptoSaid : Prop := graphOrdersUptoRow.holds Try.pinned (OpenSpec.upto graphOrdersSpec)

end Rows
end Go.Proofs.Ytnfdgjdnlikepaa
