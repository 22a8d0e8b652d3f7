/- The law of the graph: plain. -/
import Derived.Test.YtnfdgjdnlikepaaPs
import Derived.Test.YtnfdgjdnlikepaaEh
namespace Go.Proofs.Ytnfdgjdnlikepaa
open Go.RowKit
open Rep (rep)
theorem lawOrdersD_eq {fu : Nat} (hf : 82 ≤ fu) : lawOrdersD fu = some true := by
  rw [← ordersB_eq hf]
  rfl
theorem graphOrdersD_eq {N fu : Nat} {g : GGraph} (hN : Small g N) (hf : N + 82 ≤ fu) (n : Int) : graphOrdersD fu g n = some true := by
  unfold graphOrdersD graphOrders_j1 reachOfD
  rw [reachD_eq hN (by omega), some_bind, reachesD_eq hN (by omega), some_bind, some_bind, some_bind, bif_t (dec_t rfl), readyD_eq hN (by omega), some_bind, readyInD_eq hN (by omega), some_bind, bif_t (by simp), gorderD_eq hN (by omega), some_bind, orderOfD_eq hN (by omega), some_bind, some_bind, sameZ_refl, bif_t rfl, lawOrdersD_eq (by omega), some_bind]
end Go.Proofs.Ytnfdgjdnlikepaa
