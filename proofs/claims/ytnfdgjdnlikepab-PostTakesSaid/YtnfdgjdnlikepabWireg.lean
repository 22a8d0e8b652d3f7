/- The reference's check of a frame: every kind. -/
import Derived.Test.YtnfdgjdnlikepabWiree
import Derived.Test.YtnfdgjdnlikepabWiref
namespace Go.Proofs.Ytnfdgjdnlikepab
open Go.RowKit

set_option maxRecDepth 100000 in
theorem isFrame_range {S : Nat → Prop} (cs : Array Value) (f : GFrame) (w : World) (hf : RFrame S w cs f) (h : f.kind < 1 ∨ 5 < f.kind ∨ f.node < 0 ∨ 6 ≤ f.node ∨ f.id < 0 ∨ 32 ≤ f.id) :
    Calls Try.prog 70 #[.agg cs] w fun e w' => e = .returned (.int .i64 (frameZ f)) ∧ Below w.heap.size w w' := by
  obtain ⟨vo, vd, va, vv, rfl, _⟩ := hf
  by_cases h1 : f.kind < 1 ∨ 5 < f.kind
  · have hz : frameZ f = 3 := by unfold frameZ; rw [if_pos h1]
    have Hhz := Go.Lib.hid hz; clear hz
    clear h
    by_cases k1 : f.kind < 1
    · clear h1
      go_enter Try.func70, Try.ntmps70
      go_wp2_with fail
      go_ret
      exact ⟨ret_int Hhz.out.symm, by (repeat (first | exact Below.refl _ _ | assumption | refine Below.drewN ?_ _ | refine Below.drew ?_ | refine Below.alloc ?_ (by simp <;> omega) _))⟩
    · have k2 : 5 < f.kind := by omega
      clear h1
      go_enter Try.func70, Try.ntmps70
      go_wp2_with fail
      go_ret
      exact ⟨ret_int Hhz.out.symm, by (repeat (first | exact Below.refl _ _ | assumption | refine Below.drewN ?_ _ | refine Below.drew ?_ | refine Below.alloc ?_ (by simp <;> omega) _))⟩
  · have h2 : f.node < 0 ∨ 6 ≤ f.node ∨ f.id < 0 ∨ 32 ≤ f.id := by omega
    have hz : frameZ f = 2 := by unfold frameZ; rw [if_neg h1, if_pos h2]
    have k1 : 1 ≤ f.kind := by omega
    have k2 : f.kind ≤ 5 := by omega
    have Hhz := Go.Lib.hid hz; clear hz
    clear h h1
    by_cases n1 : f.node < 0
    · clear h2
      go_enter Try.func70, Try.ntmps70
      go_wp2_with fail
      go_ret
      exact ⟨ret_int Hhz.out.symm, by (repeat (first | exact Below.refl _ _ | assumption | refine Below.drewN ?_ _ | refine Below.drew ?_ | refine Below.alloc ?_ (by simp <;> omega) _))⟩
    · by_cases n2 : 6 ≤ f.node
      · clear h2
        go_enter Try.func70, Try.ntmps70
        go_wp2_with fail
        go_ret
        exact ⟨ret_int Hhz.out.symm, by (repeat (first | exact Below.refl _ _ | assumption | refine Below.drewN ?_ _ | refine Below.drew ?_ | refine Below.alloc ?_ (by simp <;> omega) _))⟩
      · have hd : decide (0 ≤ f.id ∧ f.id < 32) = false := by simp; omega
        clear h2
        go_enter Try.func70, Try.ntmps70
        go_wp2_with (go_at_call 101; refine (isTxn_any _ _).mono ?_; rintro e w' ⟨rfl, rfl⟩)
        go_ret
        exact ⟨ret_int Hhz.out.symm, by (repeat (first | exact Below.refl _ _ | assumption | refine Below.drewN ?_ _ | refine Below.drew ?_ | refine Below.alloc ?_ (by simp <;> omega) _))⟩

theorem isFrame_any {S : Nat → Prop} (cs : Array Value) (f : GFrame) (w : World) (hf : RFrame S w cs f) :
    Calls Try.prog 70 #[.agg cs] w fun e w' => e = .returned (.int .i64 (frameZ f)) ∧ Below w.heap.size w w' := by
  by_cases h : f.kind < 1 ∨ 5 < f.kind ∨ f.node < 0 ∨ 6 ≤ f.node ∨ f.id < 0 ∨ 32 ≤ f.id
  · exact isFrame_range cs f w hf h
  · obtain ⟨vo, vd, va, vv, rfl, ho, hd, ha, hv⟩ := hf
    obtain ⟨kind, node, id, ops, deps, at_, vals⟩ := f
    simp only at h ho hd ha hv
    have hk : kind = 1 ∨ kind = 2 ∨ kind = 3 ∨ kind = 4 ∨ kind = 5 := by omega
    rcases hk with rfl | rfl | rfl | rfl | rfl
    · exact isFrame_1 node id ops deps at_ vals vo vd va vv w (by omega) (by omega) (by omega) (by omega) ho hd ha hv
    · exact isFrame_2 node id ops deps at_ vals vo vd va vv w (by omega) (by omega) (by omega) (by omega) ho hd ha hv
    · exact isFrame_3 node id ops deps at_ vals vo vd va vv w (by omega) (by omega) (by omega) (by omega) ho hd ha hv
    · exact isFrame_4 node id ops deps at_ vals vo vd va vv w (by omega) (by omega) (by omega) (by omega) ho hd ha hv
    · exact isFrame_5 node id ops deps at_ vals vo vd va vv w (by omega) (by omega) (by omega) (by omega) ho hd ha hv

end Go.Proofs.Ytnfdgjdnlikepab
