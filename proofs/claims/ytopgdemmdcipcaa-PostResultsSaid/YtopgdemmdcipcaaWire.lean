/- What the check of a frame computes: a theorem a kind. (Written by gen_wire.py.) -/
import Derived.Test.YtopgdemmdcipcaaTxne
namespace Go.Proofs.Ytopgdemmdcipcaa
open Go.RowKit

structure GFrame where
  kind : Int
  node : Int
  id : Int
  ops : List GOp
  deps : List Int
  at_ : List Int
  vals : List Int

def atAt (l : List Int) (i : Nat) : Bool := decide (0 ≤ l.getD i 0) && decide (l.getD i 0 < 4) && (i == 0 || decide (l.getD (i - 1) 0 < l.getD i 0))
def valAt (l : List Int) (i : Nat) : Bool := decide (-1099511627776 ≤ l.getD i 0) && decide (l.getD i 0 ≤ 1099511627776)
def opsPart (f : GFrame) : Bool := if f.kind = 1 ∨ f.kind = 3 then goodOpsZ f.ops else f.ops.length == 0
def depsPart (f : GFrame) : Bool := if f.kind = 2 ∨ f.kind = 3 then risingZ f.deps && !hasZ f.deps f.id else f.deps.length == 0
def atPart (f : GFrame) : Bool := (f.kind == 5 || f.at_.length == 0) && (f.at_.length == f.vals.length && (allTo (atAt f.at_) f.at_.length && allTo (valAt f.vals) f.vals.length))
def frameZ (f : GFrame) : Int :=
  if f.kind < 1 ∨ 5 < f.kind then 3 else if f.node < 0 ∨ 6 ≤ f.node ∨ f.id < 0 ∨ 32 ≤ f.id then 2
  else if (opsPart f && (depsPart f && atPart f)) = true then 0 else 1

theorem frameZ_form {f : GFrame} (h1 : ¬ (f.kind < 1 ∨ 5 < f.kind)) (h2 : ¬ (f.node < 0 ∨ 6 ≤ f.node ∨ f.id < 0 ∨ 32 ≤ f.id)) (h : (opsPart f && (depsPart f && atPart f)) = false) : frameZ f = 1 := by
  unfold frameZ; rw [if_neg h1, if_neg h2, if_neg (by rw [h]; decide)]
theorem frameZ_ok {f : GFrame} (h1 : ¬ (f.kind < 1 ∨ 5 < f.kind)) (h2 : ¬ (f.node < 0 ∨ 6 ≤ f.node ∨ f.id < 0 ∨ 32 ≤ f.id)) (h : (opsPart f && (depsPart f && atPart f)) = true) : frameZ f = 0 := by
  unfold frameZ; rw [if_neg h1, if_neg h2, if_pos h]

/-- A frame as a value: seven cells. -/
def RFrame (S : Nat → Prop) (w : World) (cs : Array Value) (f : GFrame) : Prop :=
  ∃ vo vd va vv, cs = #[.int .i64 f.kind, .int .i64 f.node, .int .i64 f.id, vo, vd, va, vv] ∧ ROps S w vo f.ops ∧ RInts S w vd f.deps ∧ RInts S w va f.at_ ∧ RInts S w vv f.vals
theorem RFrame.later {S : Nat → Prop} {w w' : World} {cs : Array Value} {f : GFrame} (h : RFrame S w cs f) (hb : Below w.heap.size w w') : RFrame S w' cs f := by
  obtain ⟨vo, vd, va, vv, h0, h1, h2, h3, h4⟩ := h
  exact ⟨vo, vd, va, vv, h0, h1.later hb, h2.later hb, h3.later hb, h4.later hb⟩

theorem index_any {S : Nat → Prop} (v : Value) (l : List Int) (n : Int) (w : World) (hv : RInts S w v l) :
    Calls Try.prog 71 #[v, .int .i64 n] w fun e w' => (∃ i : Int, e = .returned (.int .i64 i) ∧ (decide (0 ≤ i)) = hasZ l n) ∧ w = w' := by
  obtain ⟨a, cap, rfl, hm⟩ := hv.shape
  have HV := Go.Lib.hid hv
  clear hv
  go_enter Try.func71, Try.ntmps71
  go_wp2_with fail
  go_loop [4, 5, 8] (fun v4 v5 i => ∃ k : Nat, k ≤ l.length ∧ i = .int .i64 k ∧ hasZ (l.take k) n = false) (fun _ _ i => l.length - (intOf i).toNat)
  case atStart => exact ⟨0, Nat.zero_le _, rfl, rfl⟩
  case round =>
    obtain ⟨k, hk, rfl, ht⟩ := hrel
    by_cases hlt : k < l.length
    · obtain ⟨x, hx⟩ := some_at hlt
      obtain ⟨b, off, rfl, hs, hbs, hc⟩ := HV.out.at hx
      have HX := Go.Lib.hid (take_snoc hx)
      have HT := Go.Lib.hid ht
      have HX2 := Go.Lib.hid hx
      clear ht hx
      by_cases hxn : n = x
      · have hb : (n == x) = true := by simp [hxn]
        have HN := Go.Lib.hid hxn
        clear hxn
        go_wp2_with fail
        go_ret
        exact ⟨⟨k, rfl, by unfold hasZ; rw [List.any_eq_true.2 ⟨x, List.mem_of_getElem? HX2.out, by simpa using HN.out.symm⟩]; simp⟩, rfl⟩
      · have hb : (n == x) = false := by simp [hxn]
        have HN := Go.Lib.hid hxn
        clear hxn
        go_wp2_with fail
        go_round
        case rel => exact ⟨k + 1, by omega, by go_num, by rw [HX.out]; unfold hasZ; rw [List.any_append]; simp only [hasZ] at HT; rw [HT.out]; simpa using fun h => HN.out h.symm⟩
        case measure => simp [intOf]; omega
    · have hkl : k = l.length := by omega
      have HT : hasZ l n = false := by rw [hkl] at ht; simpa using ht
      have HT2 := Go.Lib.hid HT
      clear ht HT hkl
      go_wp2_with fail
      go_ret
      exact ⟨⟨-1, rfl, by rw [HT2.out]; decide⟩, rfl⟩

theorem contains_any {S : Nat → Prop} (v : Value) (l : List Int) (n : Int) (w : World) (hv : RInts S w v l) :
    Calls Try.prog 42 #[v, .int .i64 n] w fun e w' => e = .returned (.bool (hasZ l n)) ∧ w = w' := by
  go_enter Try.func42, Try.ntmps42
  go_wp2_with fail
  refine (index_any _ l n _ hv).mono ?_
  rintro e w' ⟨⟨i, rfl, hi⟩, rfl⟩
  have HI := Go.Lib.hid hi
  clear hi
  go_wp2_with fail
  go_ret
  exact ⟨ret_bool HI.out, rfl⟩

end Go.Proofs.Ytopgdemmdcipcaa
