/- What other texts of this seat show of functions, said under the state of these walks. -/
import Derived.Test.YtopgdemmdcipcaaDi
import Derived.Test.YtopgdemmdcipcaaDl
import Derived.Test.YtopgdemmdcipcaaDn
import Derived.Test.YtopgdemmdcipcaaWire
import Derived.Test.YtopgdemmdcipcaaTxni
import Derived.Test.YtopgdemmdcipcaaNum
namespace Go.Proofs.Ytopgdemmdcipcaa
set_option linter.unusedVariables false
open Go.RowKit
open Rep (rep)

section
variable {w : World} {M : Mm}
theorem same_val {P : Program} {f : FuncId} {args : Array Value} {v : Value} (h : Calls P f args w fun e w' => e = .returned v ∧ w = w') : Calls P f args w (GivesV w v) :=
  h.mono fun e w' ⟨he, hw⟩ => ⟨he, hw ▸ Kept.refl w⟩
theorem below_val {P : Program} {f : FuncId} {args : Array Value} {v : Value} (h : Calls P f args w fun e w' => e = .returned v ∧ Below w.heap.size w w') : Calls P f args w (GivesV w v) :=
  h.mono fun e w' ⟨he, hw⟩ => ⟨he, Kept.of_below hw⟩
theorem drewN_val {P : Program} {f : FuncId} {args : Array Value} {v : Value} (h : Calls P f args w fun e w' => e = .returned v ∧ ∃ n, w' = w.drewN n) : Calls P f args w (GivesV w v) :=
  h.mono fun e w' ⟨he, n, hw⟩ => ⟨he, by subst hw; exact ⟨rfl, rfl, rfl, Nat.le_refl _, fun _ _ => rfl⟩⟩

/-- What M becomes where a call has made memory. -/
def Mm.fill (M : Mm) (n : Nat) (w' : World) : Mm := fun b => if b < n then M b else match w'.heap[b]? with | some (.cells arr _ _) => some arr.toList | _ => none
theorem Mm.fill_new (M : Mm) (n : Nat) (w' : World) : M.new (M.fill n w') n := fun b hb => by simp [Mm.fill, hb]
theorem Mm.fill_agree {w' : World} (hA : Agree M w) (hk : Kept w w') : Agree (M.fill w.heap.size w') w' := fun b p hb => by
  unfold Mm.fill at hb
  split at hb
  · exact (hA.kept hk) b p hb
  · split at hb
    · rename_i arr t fr hh
      cases hb
      exact ⟨arr, t, fr, hh, List.prefix_refl _⟩
    · cases hb
theorem mem_ints {P : Program} {f : FuncId} {args : Array Value} {l : List Int} (hA : Agree M w) (h : Calls P f args w (RetInts w l)) : Calls P f args w (Gives M w (fun M' u => repL M' u l)) :=
  h.mono fun e w' ⟨v, he, hr, hb⟩ => by
    refine ⟨v, M.fill w.heap.size w', he, ?_, Mm.fill_new _ _ _, Mm.fill_agree hA (Kept.of_below hb), Kept.of_below hb⟩
    refine repL_of_row' (S := fun b => w.heap.size ≤ b) (w := w') ?_ (by decide) fun b arr t fr hs hh => ?_
    · unfold RInts at hr
      rw [ints_map]
      exact hr
    · unfold Mm.fill
      rw [if_neg (by omega), hh]

theorem c_shard {k : Int} : Calls Try.prog 48 #[.int .i64 k] w (GivesV w (.int .i64 (shardZ k))) := same_val (shard_any _ _)
theorem c_shardOf {k : Int} : Calls Try.prog 76 #[.int .i64 k] w (GivesV w (.int .i64 (shardZ k))) := same_val (shardOf_any _ _)
theorem c_of {k : Int} : Calls Try.prog 45 #[.int .i64 k] w (GivesV w (.int .i64 (ofZ k))) := same_val (of_any _ _)
theorem c_ofNode {k : Int} : Calls Try.prog 55 #[.int .i64 k] w (GivesV w (.int .i64 (ofZ k))) := same_val (ofNode_any _ _)
theorem c_bound {k : Int} : Calls Try.prog 75 #[.int .i64 k] w (GivesV w (.int .i64 (clampZ k))) := same_val (bound_any _ _)
theorem c_isTxn {k : Int} : Calls Try.prog 66 #[.int .i64 k] w (GivesV w (.bool (decide (0 ≤ k ∧ k < 32)))) := same_val (isTxn_any _ _)
theorem c_do {v : Int} {cs : List Value} {o : GOp} (_ : Agree M w) (h : rep M cs o) : Calls Try.prog 88 #[.int .i64 v, .agg cs.toArray] w (GivesV w (.int .i64 (doZ v o))) := by
  have h : cs = opCells o := h
  subst h
  exact below_val (do_any _ _ _)
theorem c_doOp {v : Int} {cs : List Value} {o : GOp} (_ : Agree M w) (h : rep M cs o) : Calls Try.prog 80 #[.int .i64 v, .agg cs.toArray] w (GivesV w (.int .i64 (doZ v o))) := by
  have h : cs = opCells o := h
  subst h
  exact below_val (doOp_any _ _ _)
theorem c_refHas {v : Value} {l : List Int} {n : Int} (hA : Agree M w) (h : repL M v l) : Calls Try.prog 65 #[v, .int .i64 n] w (GivesV w (.bool (hasZ l n))) := same_val (refHas_any _ _ _ _ (h.ints hA))
theorem c_contains {v : Value} {l : List Int} {n : Int} (hA : Agree M w) (h : repL M v l) : Calls Try.prog 42 #[v, .int .i64 n] w (GivesV w (.bool (hasZ l n))) := same_val (contains_any _ _ _ _ (h.ints hA))
theorem c_touches {v : Value} {l : List GOp} {n : Int} (hA : Agree M w) (h : repL M v l) : Calls Try.prog 44 #[v, .int .i64 n] w (GivesV w (.bool (touchesZ l n))) := below_val (touches_any _ _ _ _ (h.ops hA))
theorem c_touchesShard {v : Value} {l : List GOp} {n : Int} (hA : Agree M w) (h : repL M v l) : Calls Try.prog 56 #[v, .int .i64 n] w (GivesV w (.bool (touchesZ l n))) := below_val (touchesShard_any _ _ _ _ (h.ops hA))
theorem c_rising {v : Value} {l : List Int} (hA : Agree M w) (h : repL M v l) : Calls Try.prog 62 #[v] w (GivesV w (.bool (risingZ l))) := same_val (rising_any _ _ _ (h.ints hA))
theorem c_isRising {v : Value} {l : List Int} (hA : Agree M w) (h : repL M v l) : Calls Try.prog 64 #[v] w (GivesV w (.bool (risingZ l))) := same_val (isRising_any _ _ _ (h.ints hA))
theorem c_sameNumbers {v u : Value} {l m : List Int} (hA : Agree M w) (h : repL M v l) (h' : repL M u m) : Calls Try.prog 36 #[v, u] w (GivesV w (.bool (sameZ l m))) := drewN_val (sameNumbers_any _ _ _ _ _ (h.ints hA) (h'.ints hA))
theorem c_conflict {v u : Value} {a b : List GOp} {n : Int} (hA : Agree M w) (h : repL M v a) (h' : repL M u b) : Calls Try.prog 72 #[v, u, .int .i64 n] w (GivesV w (.bool (conflictZ a b n))) := below_val (conflict_any _ _ _ _ _ _ (h.ops hA) (h'.ops hA))
theorem c_inWay {v u : Value} {a b : List GOp} {n : Int} (hA : Agree M w) (h : repL M v a) (h' : repL M u b) : Calls Try.prog 77 #[v, u, .int .i64 n] w (GivesV w (.bool (conflictZ a b n))) := below_val (inWay_any _ _ _ _ _ _ (h.ops hA) (h'.ops hA))
theorem c_goodOps {v : Value} {l : List GOp} (hA : Agree M w) (h : repL M v l) : Calls Try.prog 38 #[v] w (GivesV w (.bool (goodOpsZ l))) := below_val (goodOps_any _ _ _ (h.ops hA))
theorem c_isOps {v : Value} {l : List GOp} (hA : Agree M w) (h : repL M v l) : Calls Try.prog 63 #[v] w (GivesV w (.bool (goodOpsZ l))) := below_val (isOps_any _ _ _ (h.ops hA))
theorem c_union {v u : Value} {a b : List Int} (hA : Agree M w) (h : repL M v a) (h' : repL M u b) : Calls Try.prog 46 #[v, u] w (Gives M w (fun M' x => repL M' x (unionZ a b))) := mem_ints hA (union_any _ _ _ _ _ (h.ints hA) (h'.ints hA))
end
end Go.Proofs.Ytopgdemmdcipcaa
