/- The walks of the laws on txn. -/
import Derived.Test.YtopgdemmdcipcaaTxng
namespace Go.Proofs.Ytopgdemmdcipcaa
open Go.RowKit

theorem RInts.own {w' : World} {base : Nat} {v : Value} {l : List Int} (h : w'.ownsRow base 3 1 v l.length (l.map (Value.int .i64))) (hl : l.length * 8 ≤ 140737488351232) : RInts (fun b => base ≤ b) w' v l := RRow.of_own (bytes := 8) h hl

end Go.Proofs.Ytopgdemmdcipcaa
