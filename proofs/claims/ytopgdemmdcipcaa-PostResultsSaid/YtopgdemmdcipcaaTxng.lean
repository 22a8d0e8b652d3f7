/- That txn answers at all. -/
import Derived.Test.YtopgdemmdcipcaaTxnf
namespace Go.Proofs.Ytopgdemmdcipcaa
open Go.RowKit

theorem union12 : (unionZ [1] [2]).length = 2 := by decide
theorem row_int (w : World) (x : Int) (t : TypeId) : RInts (fun _ => True) (w.alloc (.cells #[.int .i64 x] t)) (.slice (some ⟨w.heap.size, 0, none⟩) 1 1) [x] := RRow.one w (.int .i64 x) t 8 (by decide)

end Go.Proofs.Ytopgdemmdcipcaa
