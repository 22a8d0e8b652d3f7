/- The graph of two that hang on one another; how large a graph's lists are. -/
import Derived.Test.YtnfdgjdnlikepabPo
import Derived.Test.YtnfdgjdnlikepabOpn
namespace Go.Proofs.Ytnfdgjdnlikepab
open Go.RowKit
open Rep (rep)

/-! The graph of two that hang on one another. -/
def g0 : GGraph := { known := ((Zr.zd : Vector Bool 32).setIfInBounds 1 true).setIfInBounds 2 true, deps := ((Zr.zd : Vector (List Int) 32).setIfInBounds 1 [2]).setIfInBounds 2 [1] }
theorem g0_small : Small g0 2 := by
  intro a
  have h : ∀ a : Fin 32, (depsAt g0 a.val).length < 2 := by decide +kernel
  by_cases ha : a < 32
  · have := h ⟨a, ha⟩
    exact ⟨this, by have : (depsAt g0 a).length < 2 := this; omega⟩
  · unfold depsAt
    rw [dif_neg ha]
    exact ⟨by simp, by simp⟩
def ordersB (fu : Nat) : Option Bool :=
  (gorderD fu g0 2).bind fun r42 =>
    (bif (r42.length : Int) == 2 then
    (idx r42 0).bind fun x52 =>
    (bif x52 == 1 then
    (readyD fu g0 1).bind fun r57 =>
    (bif r57 then
    (reachD fu g0 1).bind fun r62 =>
    (idxV r62 2).bind fun x63 =>
    some x63
    else
    some false)
    else
    some false)
    else
    some false)
theorem ordersB_100 : ordersB 100 = some true := by decide +kernel
theorem ordersB_eq {fu : Nat} (hf : 82 ≤ fu) : ordersB fu = some true := by
  rw [← ordersB_100]
  unfold ordersB
  rw [gorderD_eq g0_small hf, gorderD_eq g0_small (fu := 100) (by omega), readyD_eq g0_small (show 42 ≤ fu by omega), readyD_eq g0_small (fu := 100) (by omega), reachD_eq g0_small (show 42 ≤ fu by omega), reachD_eq g0_small (fu := 100) (by omega)]

theorem repL_len {M : Mm} {v : Value} {l : List Int} (h : repL M v l) : l.length ≤ 17592186043904 := by
  have h1 := h.fits
  have e : Rep.bytes Int = 8 := rfl
  rw [e] at h1
  omega
def maxLen32 (f : Nat → Nat) : Nat → Nat
  | 0 => 0
  | k + 1 => max (maxLen32 f k) (f k)
theorem maxLen32_ge (f : Nat → Nat) : ∀ (n k : Nat), k < n → f k ≤ maxLen32 f n
  | n + 1, k, h => by
    unfold maxLen32
    by_cases e : k = n
    · subst e; exact Nat.le_max_right _ _
    · exact Nat.le_trans (maxLen32_ge f n k (by omega)) (Nat.le_max_left _ _)
theorem small_of {M : Mm} {cs : List Value} {g : GGraph} (h : rep M cs g) : ∃ N, Small g N := by
  obtain ⟨_, _, h2⟩ := GGraph.unf h
  refine ⟨maxLen32 (fun a => (depsAt g a).length) 32 + 1, fun a => ?_⟩
  by_cases ha : a < 32
  · have h1 := maxLen32_ge (fun a => (depsAt g a).length) 32 a ha
    obtain ⟨v, _, h3⟩ := h2.2.2 a ha
    have e : depsAt g a = g.deps[a] := by simp [depsAt, ha]
    exact ⟨Nat.lt_succ_of_le h1, by rw [e]; exact repL_len h3⟩
  · unfold depsAt
    rw [dif_neg ha]
    exact ⟨by simp, by simp⟩
end Go.Proofs.Ytnfdgjdnlikepab
