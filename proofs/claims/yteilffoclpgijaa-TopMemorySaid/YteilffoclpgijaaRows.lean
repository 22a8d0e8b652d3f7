/-
  No cell of these rows narrows 'for every input' (looked for: loops, veiled, ifaces, maps, wideKeys, modest, calm, conditions, laid).
  DERIVED. THE GIVEN ROWS OF THIS SEAT. 12 by the template 'for every input the law returns true; each argument reads behind the call as it read before'; 0 by the template 'total and deterministic' (their statements: YteilffoclpgijaaTotals.lean).
  GIVEN WITH THE SEED: the statements are not yours to turn. If you find one false, say at which input.
  Laid BY PROGRAM, IN A SANDBOX (cutbox-rows.mjs): the forced cells as the released guide's own fill.sh prints them over the translation bae81273277b9878… (all of the seat's roots in one cut). By AI agents, Wed Nov 11 2026. No macro, syntax, notation, axiom, sorry.
-/
import Derived.Test.YteilffoclpgijaaChecked
import GoSem.Claim
import GoSem.ClaimJoined
import GoSem.ClaimMapViews
import Derived.JoinedTies
import Derived.KernelRfl
namespace Go.Proofs.Yteilffoclpgijaa
/- THE CELL 'sum', in the pinned program and in every row, IS THE sha256 OF THE DUMP (.gsa) THAT YteilffoclpgijaaProg.lean LOADS. Nothing in Lean hashes anything: it is a label: what it is worth is what the hold of that sum in a sandbox is worth. -/
noncomputable def Try.pinned : Pinned := { name := "yteilffoclpgijaa", sum := "bae81273277b987895b40d7c4590b3bd37e9590fc078bac28919044978fef282", checked := Try.checked }
namespace Rows
def none {H : Type} : Left H := { results := [], args := [] }

/-- 'janusposttop.TopWakes': WHATEVER THE INPUT: true; the input reads as it did. -/
def topWakesSpec : ChangeSpec := { name := "topWakes", fn := fun _ => fun
  | [d1, d2] => { results := [.lit (.bool true)], args := [d1, d2] }
  | _ => none }
def topWakesRow : OpenClaim := { program := "yteilffoclpgijaa", sum := "bae81273277b987895b40d7c4590b3bd37e9590fc078bac28919044978fef282", func := "januspost/janusposttop.TopWakes", spec := "topWakes", unfollowed := true, recurses := true, apart := false }
def TopWakesSaid : Prop := topWakesRow.holds Try.pinned (OpenSpec.ofChange topWakesSpec)

/-- ITS FALSE NEIGHBOUR: 'it returns false'. Refute it at one input. -/
def topWakesWrong : ChangeSpec := { name := "topWakes", fn := fun _ => fun
  | [d1, d2] => { results := [.lit (.bool false)], args := [d1, d2] }
  | _ => none }
def TopWakesWrongFalsely : Prop := topWakesRow.holds Try.pinned (OpenSpec.ofChange topWakesWrong)

/-- 'janusposttop.TopAhead': WHATEVER THE INPUT: true; the input reads as it did. -/
def topAheadSpec : ChangeSpec := { name := "topAhead", fn := fun _ => fun
  | [d] => { results := [.lit (.bool true)], args := [d] }
  | _ => none }
def topAheadRow : OpenClaim := { program := "yteilffoclpgijaa", sum := "bae81273277b987895b40d7c4590b3bd37e9590fc078bac28919044978fef282", func := "januspost/janusposttop.TopAhead", spec := "topAhead", unfollowed := true, recurses := true, apart := false }
def TopAheadSaid : Prop := topAheadRow.holds Try.pinned (OpenSpec.ofChange topAheadSpec)

/-- ITS FALSE NEIGHBOUR: 'it returns false'. Refute it at one input. -/
def topAheadWrong : ChangeSpec := { name := "topAhead", fn := fun _ => fun
  | [d] => { results := [.lit (.bool false)], args := [d] }
  | _ => none }
def TopAheadWrongFalsely : Prop := topAheadRow.holds Try.pinned (OpenSpec.ofChange topAheadWrong)

/-- 'janusposttop.TopSame': WHATEVER THE INPUT: true; the input reads as it did. -/
def topSameSpec : ChangeSpec := { name := "topSame", fn := fun _ => fun
  | [d] => { results := [.lit (.bool true)], args := [d] }
  | _ => none }
def topSameRow : OpenClaim := { program := "yteilffoclpgijaa", sum := "bae81273277b987895b40d7c4590b3bd37e9590fc078bac28919044978fef282", func := "januspost/janusposttop.TopSame", spec := "topSame", unfollowed := true, recurses := true, apart := false }
def TopSameSaid : Prop := topSameRow.holds Try.pinned (OpenSpec.ofChange topSameSpec)

/-- ITS FALSE NEIGHBOUR: 'it returns false'. Refute it at one input. -/
def topSameWrong : ChangeSpec := { name := "topSame", fn := fun _ => fun
  | [d] => { results := [.lit (.bool false)], args := [d] }
  | _ => none }
def TopSameWrongFalsely : Prop := topSameRow.holds Try.pinned (OpenSpec.ofChange topSameWrong)

/-- 'janusposttop.TopSerial': WHATEVER THE INPUT: true; the input reads as it did. -/
def topSerialSpec : ChangeSpec := { name := "topSerial", fn := fun _ => fun
  | [d] => { results := [.lit (.bool true)], args := [d] }
  | _ => none }
def topSerialRow : OpenClaim := { program := "yteilffoclpgijaa", sum := "bae81273277b987895b40d7c4590b3bd37e9590fc078bac28919044978fef282", func := "januspost/janusposttop.TopSerial", spec := "topSerial", unfollowed := true, recurses := true, apart := false }
def TopSerialSaid : Prop := topSerialRow.holds Try.pinned (OpenSpec.ofChange topSerialSpec)

/-- ITS FALSE NEIGHBOUR: 'it returns false'. Refute it at one input. -/
def topSerialWrong : ChangeSpec := { name := "topSerial", fn := fun _ => fun
  | [d] => { results := [.lit (.bool false)], args := [d] }
  | _ => none }
def TopSerialWrongFalsely : Prop := topSerialRow.holds Try.pinned (OpenSpec.ofChange topSerialWrong)

/-- 'janusposttop.TopTime': WHATEVER THE INPUT: true; the input reads as it did. -/
def topTimeSpec : ChangeSpec := { name := "topTime", fn := fun _ => fun
  | [d] => { results := [.lit (.bool true)], args := [d] }
  | _ => none }
def topTimeRow : OpenClaim := { program := "yteilffoclpgijaa", sum := "bae81273277b987895b40d7c4590b3bd37e9590fc078bac28919044978fef282", func := "januspost/janusposttop.TopTime", spec := "topTime", unfollowed := true, recurses := true, apart := false }
def TopTimeSaid : Prop := topTimeRow.holds Try.pinned (OpenSpec.ofChange topTimeSpec)

/-- ITS FALSE NEIGHBOUR: 'it returns false'. Refute it at one input. -/
def topTimeWrong : ChangeSpec := { name := "topTime", fn := fun _ => fun
  | [d] => { results := [.lit (.bool false)], args := [d] }
  | _ => none }
def TopTimeWrongFalsely : Prop := topTimeRow.holds Try.pinned (OpenSpec.ofChange topTimeWrong)

/-- 'janusposttop.TopAgree': WHATEVER THE INPUT: true; the input reads as it did. -/
def topAgreeSpec : ChangeSpec := { name := "topAgree", fn := fun _ => fun
  | [d] => { results := [.lit (.bool true)], args := [d] }
  | _ => none }
def topAgreeRow : OpenClaim := { program := "yteilffoclpgijaa", sum := "bae81273277b987895b40d7c4590b3bd37e9590fc078bac28919044978fef282", func := "januspost/janusposttop.TopAgree", spec := "topAgree", unfollowed := true, recurses := true, apart := false }
def TopAgreeSaid : Prop := topAgreeRow.holds Try.pinned (OpenSpec.ofChange topAgreeSpec)

/-- ITS FALSE NEIGHBOUR: 'it returns false'. Refute it at one input. -/
def topAgreeWrong : ChangeSpec := { name := "topAgree", fn := fun _ => fun
  | [d] => { results := [.lit (.bool false)], args := [d] }
  | _ => none }
def TopAgreeWrongFalsely : Prop := topAgreeRow.holds Try.pinned (OpenSpec.ofChange topAgreeWrong)

/-- 'janusposttop.TopSettles': WHATEVER THE INPUT: true; the input reads as it did. -/
def topSettlesSpec : ChangeSpec := { name := "topSettles", fn := fun _ => fun
  | [d] => { results := [.lit (.bool true)], args := [d] }
  | _ => none }
def topSettlesRow : OpenClaim := { program := "yteilffoclpgijaa", sum := "bae81273277b987895b40d7c4590b3bd37e9590fc078bac28919044978fef282", func := "januspost/janusposttop.TopSettles", spec := "topSettles", unfollowed := true, recurses := true, apart := false }
def TopSettlesSaid : Prop := topSettlesRow.holds Try.pinned (OpenSpec.ofChange topSettlesSpec)

/-- ITS FALSE NEIGHBOUR: 'it returns false'. Refute it at one input. -/
def topSettlesWrong : ChangeSpec := { name := "topSettles", fn := fun _ => fun
  | [d] => { results := [.lit (.bool false)], args := [d] }
  | _ => none }
def TopSettlesWrongFalsely : Prop := topSettlesRow.holds Try.pinned (OpenSpec.ofChange topSettlesWrong)

/-- 'janusposttop.TopRuns': WHATEVER THE INPUT: true; the input reads as it did. -/
def topRunsSpec : ChangeSpec := { name := "topRuns", fn := fun _ => fun
  | [d1, d2] => { results := [.lit (.bool true)], args := [d1, d2] }
  | _ => none }
def topRunsRow : OpenClaim := { program := "yteilffoclpgijaa", sum := "bae81273277b987895b40d7c4590b3bd37e9590fc078bac28919044978fef282", func := "januspost/janusposttop.TopRuns", spec := "topRuns", unfollowed := true, recurses := true, apart := false }
def TopRunsSaid : Prop := topRunsRow.holds Try.pinned (OpenSpec.ofChange topRunsSpec)

/-- ITS FALSE NEIGHBOUR: 'it returns false'. Refute it at one input. -/
def topRunsWrong : ChangeSpec := { name := "topRuns", fn := fun _ => fun
  | [d1, d2] => { results := [.lit (.bool false)], args := [d1, d2] }
  | _ => none }
def TopRunsWrongFalsely : Prop := topRunsRow.holds Try.pinned (OpenSpec.ofChange topRunsWrong)

/-- 'janusposttop.TopGood': WHATEVER THE INPUT: true; the input reads as it did. -/
def topGoodSpec : ChangeSpec := { name := "topGood", fn := fun _ => fun
  | [d] => { results := [.lit (.bool true)], args := [d] }
  | _ => none }
def topGoodRow : OpenClaim := { program := "yteilffoclpgijaa", sum := "bae81273277b987895b40d7c4590b3bd37e9590fc078bac28919044978fef282", func := "januspost/janusposttop.TopGood", spec := "topGood", unfollowed := true, recurses := true, apart := false }
def TopGoodSaid : Prop := topGoodRow.holds Try.pinned (OpenSpec.ofChange topGoodSpec)

/-- ITS FALSE NEIGHBOUR: 'it returns false'. Refute it at one input. -/
def topGoodWrong : ChangeSpec := { name := "topGood", fn := fun _ => fun
  | [d] => { results := [.lit (.bool false)], args := [d] }
  | _ => none }
def TopGoodWrongFalsely : Prop := topGoodRow.holds Try.pinned (OpenSpec.ofChange topGoodWrong)

/-- 'janusposttop.TopRefused': WHATEVER THE INPUT: true; the input reads as it did. -/
def topRefusedSpec : ChangeSpec := { name := "topRefused", fn := fun _ => fun
  | [d1, d2] => { results := [.lit (.bool true)], args := [d1, d2] }
  | _ => none }
def topRefusedRow : OpenClaim := { program := "yteilffoclpgijaa", sum := "bae81273277b987895b40d7c4590b3bd37e9590fc078bac28919044978fef282", func := "januspost/janusposttop.TopRefused", spec := "topRefused", unfollowed := true, recurses := true, apart := false }
def TopRefusedSaid : Prop := topRefusedRow.holds Try.pinned (OpenSpec.ofChange topRefusedSpec)

/-- ITS FALSE NEIGHBOUR: 'it returns false'. Refute it at one input. -/
def topRefusedWrong : ChangeSpec := { name := "topRefused", fn := fun _ => fun
  | [d1, d2] => { results := [.lit (.bool false)], args := [d1, d2] }
  | _ => none }
def TopRefusedWrongFalsely : Prop := topRefusedRow.holds Try.pinned (OpenSpec.ofChange topRefusedWrong)

/-- 'janusposttop.TopMemory': WHATEVER THE INPUT: true; the input reads as it did. -/
def topMemorySpec : ChangeSpec := { name := "topMemory", fn := fun _ => fun
  | [d] => { results := [.lit (.bool true)], args := [d] }
  | _ => none }
def topMemoryRow : OpenClaim := { program := "yteilffoclpgijaa", sum := "bae81273277b987895b40d7c4590b3bd37e9590fc078bac28919044978fef282", func := "januspost/janusposttop.TopMemory", spec := "topMemory", unfollowed := true, recurses := true, apart := false }
def TopMemorySaid : Prop := topMemoryRow.holds Try.pinned (OpenSpec.ofChange topMemorySpec)

/-- ITS FALSE NEIGHBOUR: 'it returns false'. Refute it at one input. -/
def topMemoryWrong : ChangeSpec := { name := "topMemory", fn := fun _ => fun
  | [d] => { results := [.lit (.bool false)], args := [d] }
  | _ => none }
def TopMemoryWrongFalsely : Prop := topMemoryRow.holds Try.pinned (OpenSpec.ofChange topMemoryWrong)

/-- 'janusposttop.TopEnds': WHATEVER THE INPUT: true; the input reads as it did. -/
def topEndsSpec : ChangeSpec := { name := "topEnds", fn := fun _ => fun
  | [d1, d2] => { results := [.lit (.bool true)], args := [d1, d2] }
  | _ => none }
def topEndsRow : OpenClaim := { program := "yteilffoclpgijaa", sum := "bae81273277b987895b40d7c4590b3bd37e9590fc078bac28919044978fef282", func := "januspost/janusposttop.TopEnds", spec := "topEnds", unfollowed := true, recurses := true, apart := false }
def TopEndsSaid : Prop := topEndsRow.holds Try.pinned (OpenSpec.ofChange topEndsSpec)

/-- ITS FALSE NEIGHBOUR: 'it returns false'. Refute it at one input. -/
def topEndsWrong : ChangeSpec := { name := "topEnds", fn := fun _ => fun
  | [d1, d2] => { results := [.lit (.bool false)], args := [d1, d2] }
  | _ => none }
def TopEndsWrongFalsely : Prop := topEndsRow.holds Try.pinned (OpenSpec.ofChange topEndsWrong)

/- THE SECOND FORM. 'bulk': how many values and letters a reading holds, each counted each time it is reached (what is shared counts as often as it is met; a slice's spare places count too). A statement '..UptoSaid' is the law's where the arguments, and the package variables that the reading takes, are together of bulk at most 1048576: NARROWER than '..Said'. Prove '..Said' where nothing that the law and all that it calls make is longer than what came in: it says more and counts as full. Else prove '..UptoSaid'. A law counts once. -/
mutual
def uptoBulk {H : Type} : DataW H → Nat
  | .lit (.string bytes) => bytes.length + 1
  | .lit _ => 1
  | .nil => 1
  | .ptr d => uptoBulk d + 1
  | .slice elems spare => uptoBulkAll elems + uptoBulkAll spare + 1
  | .agg parts => uptoBulkAll parts + 1
  | .iface _ d => uptoBulk d + 1
  | .map entries => uptoBulkEntries entries + 1
  | .held _ => 1
def uptoBulkAll {H : Type} : List (DataW H) → Nat
  | [] => 0
  | d :: r => uptoBulk d + uptoBulkAll r
def uptoBulkEntries {H : Type} : List (Lit × DataW H) → Nat
  | [] => 0
  | x :: r => uptoBulkEntry x + uptoBulkEntries r
def uptoBulkEntry {H : Type} : Lit × DataW H → Nat
  | (.string bytes, d) => bytes.length + uptoBulk d + 1
  | (_, d) => uptoBulk d + 1
 end
def uptoSmall : (H : Type) → List (DataW H) → Bool := fun _ ds => decide (uptoBulkAll ds ≤ 1048576)
def OpenSpec.upto (s : _root_.Go.ChangeSpec) : _root_.Go.OpenSpec := { _root_.Go.OpenSpec.ofChange s with cond := some uptoSmall }

/-- 'janusposttop.TopWakes', WHERE WHAT IT READS IS OF BULK AT MOST 1048576: true; the input reads as it did. -/
def topWakesUptoRow : OpenClaim := { program := "yteilffoclpgijaa", sum := "bae81273277b987895b40d7c4590b3bd37e9590fc078bac28919044978fef282", func := "januspost/janusposttop.TopWakes", spec := "topWakes", unfollowed := true, recurses := true, apart := false, narrowed := true }
def TopWakesUptoSaid : Prop := topWakesUptoRow.holds Try.pinned (OpenSpec.upto topWakesSpec)

/-- 'janusposttop.TopAhead', WHERE WHAT IT READS IS OF BULK AT MOST 1048576: true; the input reads as it did. -/
def topAheadUptoRow : OpenClaim := { program := "yteilffoclpgijaa", sum := "bae81273277b987895b40d7c4590b3bd37e9590fc078bac28919044978fef282", func := "januspost/janusposttop.TopAhead", spec := "topAhead", unfollowed := true, recurses := true, apart := false, narrowed := true }
def TopAheadUptoSaid : Prop := topAheadUptoRow.holds Try.pinned (OpenSpec.upto topAheadSpec)

/-- 'janusposttop.TopSame', WHERE WHAT IT READS IS OF BULK AT MOST 1048576: true; the input reads as it did. -/
def topSameUptoRow : OpenClaim := { program := "yteilffoclpgijaa", sum := "bae81273277b987895b40d7c4590b3bd37e9590fc078bac28919044978fef282", func := "januspost/janusposttop.TopSame", spec := "topSame", unfollowed := true, recurses := true, apart := false, narrowed := true }
def TopSameUptoSaid : Prop := topSameUptoRow.holds Try.pinned (OpenSpec.upto topSameSpec)

/-- 'janusposttop.TopSerial', WHERE WHAT IT READS IS OF BULK AT MOST 1048576: true; the input reads as it did. -/
def topSerialUptoRow : OpenClaim := { program := "yteilffoclpgijaa", sum := "bae81273277b987895b40d7c4590b3bd37e9590fc078bac28919044978fef282", func := "januspost/janusposttop.TopSerial", spec := "topSerial", unfollowed := true, recurses := true, apart := false, narrowed := true }
def TopSerialUptoSaid : Prop := topSerialUptoRow.holds Try.pinned (OpenSpec.upto topSerialSpec)

/-- 'janusposttop.TopTime', WHERE WHAT IT READS IS OF BULK AT MOST 1048576: true; the input reads as it did. -/
def topTimeUptoRow : OpenClaim := { program := "yteilffoclpgijaa", sum := "bae81273277b987895b40d7c4590b3bd37e9590fc078bac28919044978fef282", func := "januspost/janusposttop.TopTime", spec := "topTime", unfollowed := true, recurses := true, apart := false, narrowed := true }
def TopTimeUptoSaid : Prop := topTimeUptoRow.holds Try.pinned (OpenSpec.upto topTimeSpec)

/-- 'janusposttop.TopAgree', WHERE WHAT IT READS IS OF BULK AT MOST 1048576: true; the input reads as it did. -/
def topAgreeUptoRow : OpenClaim := { program := "yteilffoclpgijaa", sum := "bae81273277b987895b40d7c4590b3bd37e9590fc078bac28919044978fef282", func := "januspost/janusposttop.TopAgree", spec := "topAgree", unfollowed := true, recurses := true, apart := false, narrowed := true }
def TopAgreeUptoSaid : Prop := topAgreeUptoRow.holds Try.pinned (OpenSpec.upto topAgreeSpec)

/-- 'janusposttop.TopSettles', WHERE WHAT IT READS IS OF BULK AT MOST 1048576: true; the input reads as it did. -/
def topSettlesUptoRow : OpenClaim := { program := "yteilffoclpgijaa", sum := "bae81273277b987895b40d7c4590b3bd37e9590fc078bac28919044978fef282", func := "januspost/janusposttop.TopSettles", spec := "topSettles", unfollowed := true, recurses := true, apart := false, narrowed := true }
def TopSettlesUptoSaid : Prop := topSettlesUptoRow.holds Try.pinned (OpenSpec.upto topSettlesSpec)

/-- 'janusposttop.TopRuns', WHERE WHAT IT READS IS OF BULK AT MOST 1048576: true; the input reads as it did. -/
def topRunsUptoRow : OpenClaim := { program := "yteilffoclpgijaa", sum := "bae81273277b987895b40d7c4590b3bd37e9590fc078bac28919044978fef282", func := "januspost/janusposttop.TopRuns", spec := "topRuns", unfollowed := true, recurses := true, apart := false, narrowed := true }
def TopRunsUptoSaid : Prop := topRunsUptoRow.holds Try.pinned (OpenSpec.upto topRunsSpec)

/-- 'janusposttop.TopGood', WHERE WHAT IT READS IS OF BULK AT MOST 1048576: true; the input reads as it did. -/
def topGoodUptoRow : OpenClaim := { program := "yteilffoclpgijaa", sum := "bae81273277b987895b40d7c4590b3bd37e9590fc078bac28919044978fef282", func := "januspost/janusposttop.TopGood", spec := "topGood", unfollowed := true, recurses := true, apart := false, narrowed := true }
def TopGoodUptoSaid : Prop := topGoodUptoRow.holds Try.pinned (OpenSpec.upto topGoodSpec)

/-- 'janusposttop.TopRefused', WHERE WHAT IT READS IS OF BULK AT MOST 1048576: true; the input reads as it did. -/
def topRefusedUptoRow : OpenClaim := { program := "yteilffoclpgijaa", sum := "bae81273277b987895b40d7c4590b3bd37e9590fc078bac28919044978fef282", func := "januspost/janusposttop.TopRefused", spec := "topRefused", unfollowed := true, recurses := true, apart := false, narrowed := true }
def TopRefusedUptoSaid : Prop := topRefusedUptoRow.holds Try.pinned (OpenSpec.upto topRefusedSpec)

/-- 'janusposttop.TopMemory', WHERE WHAT IT READS IS OF BULK AT MOST 1048576: true; the input reads as it did. -/
def topMemoryUptoRow : OpenClaim := { program := "yteilffoclpgijaa", sum := "bae81273277b987895b40d7c4590b3bd37e9590fc078bac28919044978fef282", func := "januspost/janusposttop.TopMemory", spec := "topMemory", unfollowed := true, recurses := true, apart := false, narrowed := true }
def TopMemoryUptoSaid : Prop := topMemoryUptoRow.holds Try.pinned (OpenSpec.upto topMemorySpec)

/-- 'janusposttop.TopEnds', WHERE WHAT IT READS IS OF BULK AT MOST 1048576: true; the input reads as it did. -/
def topEndsUptoRow : OpenClaim := { program := "yteilffoclpgijaa", sum := "bae81273277b987895b40d7c4590b3bd37e9590fc078bac28919044978fef282", func := "januspost/janusposttop.TopEnds", spec := "topEnds", unfollowed := true, recurses := true, apart := false, narrowed := true }
def TopEndsUptoSaid : Prop := topEndsUptoRow.holds Try.pinned (OpenSpec.upto topEndsSpec)

end Rows
end Go.Proofs.Yteilffoclpgijaa
