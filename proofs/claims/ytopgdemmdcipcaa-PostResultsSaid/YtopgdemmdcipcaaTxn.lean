/- What the small functions of package txn, and the references beside them, compute: each call returns the value of one plain function. -/
import Derived.Test.YtopgdemmdcipcaaRows
import Derived.Test.YtopgdemmdcipcaaBase
namespace Go.Proofs.Ytopgdemmdcipcaa
open Go.RowKit

def shardZ (k : Int) : Int := if k % 2 = 0 then 0 else 1
def ofZ (n : Int) : Int := if n < 3 then 0 else 1
def clampZ (v : Int) : Int := if v > 1099511627776 then 1099511627776 else if v < -1099511627776 then -1099511627776 else v
def doZ (v : Int) (o : GOp) : Int := if o.kind = 2 then clampZ o.n else if o.kind = 3 then clampZ (clampZ v + clampZ o.n) else clampZ v

theorem ret_int {a b : Int} (h : a = b) : Ending.returned (.int .i64 a) = .returned (.int .i64 b) := by rw [h]
theorem ret_bool {a b : Bool} (h : a = b) : Ending.returned (.bool a) = .returned (.bool b) := by rw [h]

theorem tmod2 (k : Int) : k.tmod 2 = if k % 2 = 0 then 0 else if 0 ≤ k then 1 else -1 := by
  rcases Int.lt_or_le k 0 with h | h
  · obtain ⟨m, rfl⟩ : ∃ m, k = -m := ⟨-k, by omega⟩
    rw [Int.neg_tmod, Int.tmod_eq_emod_of_nonneg (by omega)]
    split
    · omega
    · rw [if_neg (by omega)]; omega
  · rw [Int.tmod_eq_emod_of_nonneg h]
    split <;> omega

theorem shard_plain (k : Int) : (wrap64 (k.tmod 2 + 2)).tmod 2 = shardZ k := by
  rw [tmod2 k]
  unfold shardZ
  split
  · rw [IntWalk.wrap64_in _ ⟨by omega, by omega⟩]; rfl
  · split <;> rw [IntWalk.wrap64_in _ ⟨by omega, by omega⟩] <;> rfl

theorem shard_any (k : Int) (w : World) :
    Calls Try.prog 48 #[.int .i64 k] w fun e w' => e = .returned (.int .i64 (shardZ k)) ∧ w = w' := by
  go_enter Try.func48, Try.ntmps48
  go_wp2
  go_ret
  exact ⟨ret_int (shard_plain k), rfl⟩

theorem shardOf_any (k : Int) (w : World) :
    Calls Try.prog 76 #[.int .i64 k] w fun e w' => e = .returned (.int .i64 (shardZ k)) ∧ w = w' := by
  have ht := tmod2 k
  by_cases h : k % 2 = 0
  · rw [if_pos h] at ht
    have hb : (k.tmod 2 == 0) = true := by simp [ht]
    clear ht
    go_enter Try.func76, Try.ntmps76
    go_wp2
    go_ret
    exact ⟨ret_int (by unfold shardZ; rw [if_pos h]), rfl⟩
  · rw [if_neg h] at ht
    have hb : (k.tmod 2 == 0) = false := by rw [ht]; split <;> rfl
    clear ht
    go_enter Try.func76, Try.ntmps76
    go_wp2
    go_ret
    exact ⟨ret_int (by unfold shardZ; rw [if_neg h]), rfl⟩

theorem of_any (n : Int) (w : World) :
    Calls Try.prog 45 #[.int .i64 n] w fun e w' => e = .returned (.int .i64 (ofZ n)) ∧ w = w' := by
  go_enter Try.func45, Try.ntmps45
  go_wp2
  all_goals
    go_ret
    exact ⟨ret_int (by unfold ofZ; split <;> omega), rfl⟩

theorem ofNode_any (n : Int) (w : World) :
    Calls Try.prog 55 #[.int .i64 n] w fun e w' => e = .returned (.int .i64 (ofZ n)) ∧ w = w' := by
  by_cases h : n < 3
  all_goals
    go_enter Try.func55, Try.ntmps55
    go_wp2
    go_ret
    exact ⟨ret_int (by unfold ofZ; split <;> omega), rfl⟩

theorem bound_any (v : Int) (w : World) :
    Calls Try.prog 75 #[.int .i64 v] w fun e w' => e = .returned (.int .i64 (clampZ v)) ∧ w = w' := by
  by_cases h : 1099511627776 < v
  · go_enter Try.func75, Try.ntmps75
    go_wp2
    go_ret
    exact ⟨ret_int (by unfold clampZ; split <;> omega), rfl⟩
  · by_cases h2 : v < -1099511627776
    all_goals
      go_enter Try.func75, Try.ntmps75
      go_wp2
      go_ret
      exact ⟨ret_int (by unfold clampZ; split <;> (try split) <;> omega), rfl⟩

theorem isTxn_any (n : Int) (w : World) :
    Calls Try.prog 66 #[.int .i64 n] w fun e w' => e = .returned (.bool (decide (0 ≤ n ∧ n < 32))) ∧ w = w' := by
  by_cases h : 0 ≤ n
  all_goals
    go_enter Try.func66, Try.ntmps66
    go_wp2
    go_ret
    exact ⟨ret_bool (by simp; omega), rfl⟩

theorem do_any (v : Int) (o : GOp) (w : World) :
    Calls Try.prog 88 #[.int .i64 v, .agg #[.int .i64 o.kind, .int .i64 o.key, .int .i64 o.n]] w fun e w' => e = .returned (.int .i64 (doZ v o)) ∧ Below w.heap.size w w' := by
  go_enter Try.func88, Try.ntmps88
  go_wp2
  all_goals
    go_ret
    exact ⟨ret_int (by unfold doZ clampZ; simp_all <;> omega), (Below.refl _ _).alloc (Nat.le_refl _) _⟩

theorem clampZ_bd (v : Int) : -1099511627776 ≤ clampZ v ∧ clampZ v ≤ 1099511627776 := by unfold clampZ; split <;> (try split) <;> omega

theorem doOp_any (v : Int) (o : GOp) (w : World) :
    Calls Try.prog 80 #[.int .i64 v, .agg #[.int .i64 o.kind, .int .i64 o.key, .int .i64 o.n]] w fun e w' => e = .returned (.int .i64 (doZ v o)) ∧ Below w.heap.size w w' := by
  have hv := clampZ_bd v
  have hn := clampZ_bd o.n
  by_cases h2 : o.kind = 2
  · have hb2 : (o.kind == 2) = true := by simp [h2]
    have H2 := Go.Lib.hid h2
    clear h2
    go_enter Try.func80, Try.ntmps80
    go_wp2_with (go_at_call 75; refine (bound_any _ _).mono ?_; rintro e w' ⟨rfl, rfl⟩)
    go_ret
    exact ⟨ret_int (by unfold doZ; rw [if_pos H2.out]), (Below.refl _ _).alloc (Nat.le_refl _) _⟩
  · have hb2 : (o.kind == 2) = false := by simp [h2]
    by_cases h3 : o.kind = 3
    · have hb3 : (o.kind == 3) = true := by simp [h3]
      have H2 := Go.Lib.hid h2
      have H3 := Go.Lib.hid h3
      clear h2 h3
      go_enter Try.func80, Try.ntmps80
      go_wp2_with fail
      go_quiet ((go_at_call 75; exact Calls.quiet_of_same (turned (bound_any _ _))))
      go_wp2_with (go_at_call 75; refine (bound_any _ _).mono ?_; rintro e w' ⟨rfl, rfl⟩)
      go_ret
      exact ⟨ret_int (by unfold doZ; rw [if_neg H2.out, if_pos H3.out]), by (repeat (first | exact Below.refl _ _ | assumption | refine Below.drewN ?_ _ | refine Below.drew ?_ | refine Below.alloc ?_ (by simp <;> omega) _))⟩
    · have hb3 : (o.kind == 3) = false := by simp [h3]
      have H2 := Go.Lib.hid h2
      have H3 := Go.Lib.hid h3
      clear h2 h3
      go_enter Try.func80, Try.ntmps80
      go_wp2_with (go_at_call 75; refine (bound_any _ _).mono ?_; rintro e w' ⟨rfl, rfl⟩)
      go_ret
      exact ⟨ret_int (by unfold doZ; rw [if_neg H2.out, if_neg H3.out]), (Below.refl _ _).alloc (Nat.le_refl _) _⟩

def hasZ (l : List Int) (n : Int) : Bool := l.any fun m => m == n

/-- The search for a number, whichever function says it. -/
theorem refHas_any {S : Nat → Prop} (v : Value) (l : List Int) (n : Int) (w : World) (hv : RInts S w v l) :
    Calls Try.prog 65 #[v, .int .i64 n] w fun e w' => e = .returned (.bool (hasZ l n)) ∧ w = w' := by
  obtain ⟨a, cap, rfl, hm⟩ := hv.shape
  have HV := Go.Lib.hid hv
  clear hv
  go_enter Try.func65, Try.ntmps65
  go_wp2_with fail
  go_loop [4, 6, 9] (fun v4 v6 i => ∃ k : Nat, k ≤ l.length ∧ i = .int .i64 k ∧ v4 = .bool false ∧ hasZ (l.take k) n = false) (fun _ _ i => l.length - (intOf i).toNat)
  case atStart => exact ⟨0, Nat.zero_le _, rfl, rfl, rfl⟩
  case round =>
    obtain ⟨k, hk, rfl, rfl, ht⟩ := hrel
    by_cases hlt : k < l.length
    · obtain ⟨x, hx⟩ := some_at hlt
      obtain ⟨b, off, rfl, hs, hbs, hc⟩ := HV.out.at hx
      have HX := Go.Lib.hid (take_snoc hx)
      have HT := Go.Lib.hid ht
      have HX2 := Go.Lib.hid hx
      clear ht hx
      by_cases hxn : x = n
      · have hb : (x == n) = true := by simp [hxn]
        have HN := Go.Lib.hid hxn
        clear hxn
        go_wp2_with fail
        go_ret
        exact ⟨ret_bool (by unfold hasZ; exact (List.any_eq_true.2 ⟨x, List.mem_of_getElem? HX2.out, by simpa using HN.out⟩).symm), rfl⟩
      · have hb : (x == n) = false := by simp [hxn]
        have HN := Go.Lib.hid hxn
        clear hxn
        go_wp2_with fail
        go_round
        case rel => exact ⟨k + 1, by omega, by go_num, rfl, by rw [HX.out]; unfold hasZ; rw [List.any_append]; simp only [hasZ] at HT; rw [HT.out]; simpa using hb⟩
        case measure => simp [intOf]; omega
    · have hkl : k = l.length := by omega
      have HT : hasZ l n = false := by rw [hkl] at ht; simpa using ht
      have HT2 := Go.Lib.hid HT
      clear ht HT hkl
      go_wp2_with fail
      go_ret
      exact ⟨ret_bool HT2.out.symm, rfl⟩

end Go.Proofs.Ytopgdemmdcipcaa
