/- What the check of a frame computes: wire.Good, a theorem a kind. (Written by gen_wire.py.) -/
import Derived.Test.YtnfdgjdnlikepabWire
namespace Go.Proofs.Ytnfdgjdnlikepab
open Go.RowKit

set_option maxRecDepth 100000 in
theorem good_range {S : Nat → Prop} (cs : Array Value) (f : GFrame) (w : World) (hf : RFrame S w cs f) (h : f.kind < 1 ∨ 5 < f.kind ∨ f.node < 0 ∨ 6 ≤ f.node ∨ f.id < 0 ∨ 32 ≤ f.id) :
    Calls Try.prog 32 #[.agg cs] w fun e w' => e = .returned (.int .i64 (frameZ f)) ∧ Below w.heap.size w w' := by
  obtain ⟨vo, vd, va, vv, rfl, _⟩ := hf
  by_cases h1 : f.kind < 1 ∨ 5 < f.kind
  · have hz : frameZ f = 3 := by unfold frameZ; rw [if_pos h1]
    have Hhz := Go.Lib.hid hz; clear hz
    clear h
    by_cases k1 : f.kind < 1
    · clear h1
      go_enter Try.func32, Try.ntmps32
      go_wp2_with fail
      go_ret
      exact ⟨ret_int Hhz.out.symm, by (repeat (first | exact Below.refl _ _ | assumption | refine Below.drewN ?_ _ | refine Below.drew ?_ | refine Below.alloc ?_ (by simp <;> omega) _))⟩
    · have k2 : 5 < f.kind := by omega
      clear h1
      go_enter Try.func32, Try.ntmps32
      go_wp2_with fail
      go_ret
      exact ⟨ret_int Hhz.out.symm, by (repeat (first | exact Below.refl _ _ | assumption | refine Below.drewN ?_ _ | refine Below.drew ?_ | refine Below.alloc ?_ (by simp <;> omega) _))⟩
  · have h2 : f.node < 0 ∨ 6 ≤ f.node ∨ f.id < 0 ∨ 32 ≤ f.id := by omega
    have hz : frameZ f = 2 := by unfold frameZ; rw [if_neg h1, if_pos h2]
    have k1 : 1 ≤ f.kind := by omega
    have k2 : f.kind ≤ 5 := by omega
    have Hhz := Go.Lib.hid hz; clear hz
    clear h h1
    by_cases n1 : f.node < 0
    · clear h2
      go_enter Try.func32, Try.ntmps32
      go_wp2_with fail
      go_ret
      exact ⟨ret_int Hhz.out.symm, by (repeat (first | exact Below.refl _ _ | assumption | refine Below.drewN ?_ _ | refine Below.drew ?_ | refine Below.alloc ?_ (by simp <;> omega) _))⟩
    · by_cases n2 : 6 ≤ f.node
      · clear h2
        go_enter Try.func32, Try.ntmps32
        go_wp2_with fail
        go_ret
        exact ⟨ret_int Hhz.out.symm, by (repeat (first | exact Below.refl _ _ | assumption | refine Below.drewN ?_ _ | refine Below.drew ?_ | refine Below.alloc ?_ (by simp <;> omega) _))⟩
      · by_cases n3 : f.id < 0
        · clear h2
          go_enter Try.func32, Try.ntmps32
          go_wp2_with fail
          go_ret
          exact ⟨ret_int Hhz.out.symm, by (repeat (first | exact Below.refl _ _ | assumption | refine Below.drewN ?_ _ | refine Below.drew ?_ | refine Below.alloc ?_ (by simp <;> omega) _))⟩
        · have n4 : 32 ≤ f.id := by omega
          clear h2
          go_enter Try.func32, Try.ntmps32
          go_wp2_with fail
          go_ret
          exact ⟨ret_int Hhz.out.symm, by (repeat (first | exact Below.refl _ _ | assumption | refine Below.drewN ?_ _ | refine Below.drew ?_ | refine Below.alloc ?_ (by simp <;> omega) _))⟩

set_option maxRecDepth 100000 in
set_option maxHeartbeats 4000000 in
theorem good_1 {S : Nat → Prop} (node id : Int) (ops : List GOp) (deps at_ vals : List Int) (vo vd va vv : Value) (w : World) (n1 : 0 ≤ node) (n2 : node < 6) (n3 : 0 ≤ id) (n4 : id < 32)
    (ho : ROps S w vo ops) (hd : RInts S w vd deps) (ha : RInts S w va at_) (hv : RInts S w vv vals) :
    Calls Try.prog 32 #[.agg #[.int .i64 1, .int .i64 node, .int .i64 id, vo, vd, va, vv]] w fun e w' => e = .returned (.int .i64 (frameZ ⟨1, node, id, ops, deps, at_, vals⟩)) ∧ Below w.heap.size w w' := by
  obtain ⟨ao, capo, rfl, hmo⟩ := ho.shape
  obtain ⟨ad, capd, rfl, hmd⟩ := hd.shape
  obtain ⟨aa, capa, rfl, hma⟩ := ha.shape
  obtain ⟨av, capv, rfl, hmv⟩ := hv.shape
  have hk : ¬ ((⟨1, node, id, ops, deps, at_, vals⟩ : GFrame).kind < 1 ∨ 5 < (⟨1, node, id, ops, deps, at_, vals⟩ : GFrame).kind) := by show ¬ ((1 : Int) < 1 ∨ 5 < (1 : Int)); omega
  have hr : ¬ ((⟨1, node, id, ops, deps, at_, vals⟩ : GFrame).node < 0 ∨ 6 ≤ (⟨1, node, id, ops, deps, at_, vals⟩ : GFrame).node ∨ (⟨1, node, id, ops, deps, at_, vals⟩ : GFrame).id < 0 ∨ 32 ≤ (⟨1, node, id, ops, deps, at_, vals⟩ : GFrame).id) := by show ¬ (node < 0 ∨ 6 ≤ node ∨ id < 0 ∨ 32 ≤ id); omega
  have HNo := Go.Lib.hid (frameZ_form hk hr)
  have HYes := Go.Lib.hid (frameZ_ok hk hr)
  clear hk hr
  have ho1 : opsPart ⟨1, node, id, ops, deps, at_, vals⟩ = goodOpsZ ops := by unfold opsPart; simp
  have hd1 : depsPart ⟨1, node, id, ops, deps, at_, vals⟩ = (deps.length == 0) := by unfold depsPart; simp
  have ha1 : atPart ⟨1, node, id, ops, deps, at_, vals⟩ = ((at_.length == 0) && (at_.length == vals.length && (allTo (atAt at_) at_.length && allTo (valAt vals) vals.length))) := by unfold atPart; simp
  rw [ho1, hd1, ha1] at HNo HYes
  clear ho1 hd1 ha1
  have Hho := Go.Lib.hid ho; clear ho; have Hhd := Go.Lib.hid hd; clear hd; have Hha := Go.Lib.hid ha; clear ha; have Hhv := Go.Lib.hid hv; clear hv
  have HD0 := Go.Lib.hid (RInts.later Hhd.out ((Below.refl _ _).alloc (Nat.le_refl _) (.cells #[.int .i64 1, .int .i64 node, .int .i64 id, .slice ao ops.length capo, .slice ad deps.length capd, .slice aa at_.length capa, .slice av vals.length capv] 50)))
  by_cases z : ops.length = 0
  · have z1 : ¬ 0 < ops.length := by omega
    have hb : goodOpsZ ops = false := by obtain rfl := List.eq_nil_of_length_eq_zero z; rfl
    have Hhb := Go.Lib.hid hb; clear hb; have Hz := Go.Lib.hid z; clear z
    go_enter Try.func32, Try.ntmps32
    go_wp2_with (first | (go_at_call 75; refine (rising_any _ deps _ HD0.out).mono ?_; rintro e w' ⟨rfl, rfl⟩) | (go_at_call 76; refine (contains_any _ deps _ _ HD0.out).mono ?_; rintro e w' ⟨rfl, rfl⟩))
    go_ret
    exact ⟨ret_int (HNo.out (by rw [Hhb.out]; rfl)).symm, by (repeat (first | exact Below.refl _ _ | assumption | refine Below.drewN ?_ _ | refine Below.drew ?_ | refine Below.alloc ?_ (by simp <;> omega) _))⟩
  · have z1 : 0 < ops.length := by omega
    have Hz := Go.Lib.hid z; clear z
    go_enter Try.func32, Try.ntmps32
    go_wp2_with fail
    refine (goodOps_any _ ops _ (ROps.later Hho.out ((Below.refl _ _).alloc (Nat.le_refl _) _))).mono ?_
    rintro e w1 ⟨rfl, hb1⟩
    have HB1 := Go.Lib.hid (((Below.refl w.heap.size w).alloc (Nat.le_refl _) _).trans (hb1.mono (by simp)))
    have hz1 : w.heap.size < w1.heap.size := Nat.lt_of_lt_of_le (by simp) hb1.size
    have hcl : ∀ i, w1.cell? ⟨w.heap.size, i, none⟩ = _ := fun i => hb1.cell (p := ⟨w.heap.size, i, none⟩) (by simp)
    have q0 : w1.cell? ⟨w.heap.size, 0, none⟩ = some (.int .i64 1) := by rw [hcl]; go_simp
    have q1 : w1.cell? ⟨w.heap.size, 1, none⟩ = some (.int .i64 node) := by rw [hcl]; go_simp
    have q2 : w1.cell? ⟨w.heap.size, 2, none⟩ = some (.int .i64 id) := by rw [hcl]; go_simp
    have q3 : w1.cell? ⟨w.heap.size, 3, none⟩ = some (.slice ao ops.length capo) := by rw [hcl]; go_simp
    have q4 : w1.cell? ⟨w.heap.size, 4, none⟩ = some (.slice ad deps.length capd) := by rw [hcl]; go_simp
    have q5 : w1.cell? ⟨w.heap.size, 5, none⟩ = some (.slice aa at_.length capa) := by rw [hcl]; go_simp
    have q6 : w1.cell? ⟨w.heap.size, 6, none⟩ = some (.slice av vals.length capv) := by rw [hcl]; go_simp
    clear hb1 hcl
    have HD1 := Go.Lib.hid (RInts.later Hhd.out HB1.out)
    cases hg : goodOpsZ ops
    · have Hhg := Go.Lib.hid hg; clear hg
      go_wp2_with (first | (go_at_call 75; refine (rising_any _ deps _ HD1.out).mono ?_; rintro e w' ⟨rfl, rfl⟩) | (go_at_call 76; refine (contains_any _ deps _ _ HD1.out).mono ?_; rintro e w' ⟨rfl, rfl⟩))
      go_ret
      exact ⟨ret_int (HNo.out (by rw [Hhg.out]; rfl)).symm, HB1.out⟩
    · have Hhg := Go.Lib.hid hg; clear hg
      by_cases y : deps.length = 0
      · have hb2 : (deps.length == 0) = true := by simpa using y
        have y1 : ¬ 0 < deps.length := by omega
        have hr : risingZ deps = true := by obtain rfl := List.eq_nil_of_length_eq_zero y; rfl
        have hi : hasZ deps id = false := by obtain rfl := List.eq_nil_of_length_eq_zero y; rfl
        have Hhb2 := Go.Lib.hid hb2; clear hb2; have Hy := Go.Lib.hid y; clear y
        by_cases x : at_.length = 0
        · have x1 : ¬ 0 < at_.length := by omega
          have hb3 : (at_.length == 0) = true := by simpa using x
          have hb5 : allTo (atAt at_) at_.length = true := by rw [x]; rfl
          have Hhb3 := Go.Lib.hid hb3; clear hb3; have Hx := Go.Lib.hid x; clear x; have Hhb5 := Go.Lib.hid hb5; clear hb5
          by_cases l : at_.length = vals.length
          · have l1 : ((at_.length : Int) != (vals.length : Int)) = false := by simp [l]
            have hb4 : (at_.length == vals.length) = true := by simpa using l
            have hb6 : allTo (valAt vals) vals.length = true := by rw [← l, Hx.out]; rfl
            have Hhb4 := Go.Lib.hid hb4; clear hb4; have Hl := Go.Lib.hid l; clear l; have Hhb6 := Go.Lib.hid hb6; clear hb6
            go_wp2_with (first | (go_at_call 75; refine (rising_any _ deps _ HD1.out).mono ?_; rintro e w' ⟨rfl, rfl⟩) | (go_at_call 76; refine (contains_any _ deps _ _ HD1.out).mono ?_; rintro e w' ⟨rfl, rfl⟩))
            go_loop [110] (fun i => i = .int .i64 0) (fun _ => 0)
            case atStart => rfl
            case round =>
              obtain rfl := hrel
              go_wp2_with fail
              go_ret
              exact ⟨ret_int (HYes.out (by rw [Hhg.out, Hhb2.out, Hhb3.out, Hhb4.out, Hhb5.out, Hhb6.out]; rfl)).symm, HB1.out⟩
          · have l1 : ((at_.length : Int) != (vals.length : Int)) = true := by simp; omega
            have hb4 : (at_.length == vals.length) = false := by simpa using l
            have Hhb4 := Go.Lib.hid hb4; clear hb4; have Hl := Go.Lib.hid l; clear l
            go_wp2_with (first | (go_at_call 75; refine (rising_any _ deps _ HD1.out).mono ?_; rintro e w' ⟨rfl, rfl⟩) | (go_at_call 76; refine (contains_any _ deps _ _ HD1.out).mono ?_; rintro e w' ⟨rfl, rfl⟩))
            go_ret
            exact ⟨ret_int (HNo.out (by rw [Hhb4.out]; simp)).symm, HB1.out⟩
        · have x1 : 0 < at_.length := by omega
          have hb3 : (at_.length == 0) = false := by simpa using x
          have Hhb3 := Go.Lib.hid hb3; clear hb3; have Hx := Go.Lib.hid x; clear x
          go_wp2_with (first | (go_at_call 75; refine (rising_any _ deps _ HD1.out).mono ?_; rintro e w' ⟨rfl, rfl⟩) | (go_at_call 76; refine (contains_any _ deps _ _ HD1.out).mono ?_; rintro e w' ⟨rfl, rfl⟩))
          go_ret
          exact ⟨ret_int (HNo.out (by rw [Hhb3.out]; simp)).symm, HB1.out⟩
      · have hb2 : (deps.length == 0) = false := by simpa using y
        have y1 : 0 < deps.length := by omega
        have Hhb2 := Go.Lib.hid hb2; clear hb2; have Hy := Go.Lib.hid y; clear y
        go_wp2_with (first | (go_at_call 75; refine (rising_any _ deps _ HD1.out).mono ?_; rintro e w' ⟨rfl, rfl⟩) | (go_at_call 76; refine (contains_any _ deps _ _ HD1.out).mono ?_; rintro e w' ⟨rfl, rfl⟩))
        go_ret
        exact ⟨ret_int (HNo.out (by rw [Hhb2.out]; simp)).symm, HB1.out⟩

set_option maxRecDepth 100000 in
set_option maxHeartbeats 4000000 in
theorem good_2 {S : Nat → Prop} (node id : Int) (ops : List GOp) (deps at_ vals : List Int) (vo vd va vv : Value) (w : World) (n1 : 0 ≤ node) (n2 : node < 6) (n3 : 0 ≤ id) (n4 : id < 32)
    (ho : ROps S w vo ops) (hd : RInts S w vd deps) (ha : RInts S w va at_) (hv : RInts S w vv vals) :
    Calls Try.prog 32 #[.agg #[.int .i64 2, .int .i64 node, .int .i64 id, vo, vd, va, vv]] w fun e w' => e = .returned (.int .i64 (frameZ ⟨2, node, id, ops, deps, at_, vals⟩)) ∧ Below w.heap.size w w' := by
  obtain ⟨ao, capo, rfl, hmo⟩ := ho.shape
  obtain ⟨ad, capd, rfl, hmd⟩ := hd.shape
  obtain ⟨aa, capa, rfl, hma⟩ := ha.shape
  obtain ⟨av, capv, rfl, hmv⟩ := hv.shape
  have hk : ¬ ((⟨2, node, id, ops, deps, at_, vals⟩ : GFrame).kind < 1 ∨ 5 < (⟨2, node, id, ops, deps, at_, vals⟩ : GFrame).kind) := by show ¬ ((2 : Int) < 1 ∨ 5 < (2 : Int)); omega
  have hr : ¬ ((⟨2, node, id, ops, deps, at_, vals⟩ : GFrame).node < 0 ∨ 6 ≤ (⟨2, node, id, ops, deps, at_, vals⟩ : GFrame).node ∨ (⟨2, node, id, ops, deps, at_, vals⟩ : GFrame).id < 0 ∨ 32 ≤ (⟨2, node, id, ops, deps, at_, vals⟩ : GFrame).id) := by show ¬ (node < 0 ∨ 6 ≤ node ∨ id < 0 ∨ 32 ≤ id); omega
  have HNo := Go.Lib.hid (frameZ_form hk hr)
  have HYes := Go.Lib.hid (frameZ_ok hk hr)
  clear hk hr
  have ho1 : opsPart ⟨2, node, id, ops, deps, at_, vals⟩ = (ops.length == 0) := by unfold opsPart; simp
  have hd1 : depsPart ⟨2, node, id, ops, deps, at_, vals⟩ = (risingZ deps && !hasZ deps id) := by unfold depsPart; simp
  have ha1 : atPart ⟨2, node, id, ops, deps, at_, vals⟩ = ((at_.length == 0) && (at_.length == vals.length && (allTo (atAt at_) at_.length && allTo (valAt vals) vals.length))) := by unfold atPart; simp
  rw [ho1, hd1, ha1] at HNo HYes
  clear ho1 hd1 ha1
  have Hho := Go.Lib.hid ho; clear ho; have Hhd := Go.Lib.hid hd; clear hd; have Hha := Go.Lib.hid ha; clear ha; have Hhv := Go.Lib.hid hv; clear hv
  have HD0 := Go.Lib.hid (RInts.later Hhd.out ((Below.refl _ _).alloc (Nat.le_refl _) (.cells #[.int .i64 2, .int .i64 node, .int .i64 id, .slice ao ops.length capo, .slice ad deps.length capd, .slice aa at_.length capa, .slice av vals.length capv] 50)))
  by_cases z : ops.length = 0
  · have z1 : ¬ 0 < ops.length := by omega
    have hb : (ops.length == 0) = true := by simpa using z
    have Hhb := Go.Lib.hid hb; clear hb; have Hz := Go.Lib.hid z; clear z
    cases hr : risingZ deps
    · have hb2 : (risingZ deps && !hasZ deps id) = false := by rw [hr]; rfl
      have Hhb2 := Go.Lib.hid hb2; clear hb2
      go_enter Try.func32, Try.ntmps32
      go_wp2_with (first | (go_at_call 75; refine (rising_any _ deps _ HD0.out).mono ?_; rintro e w' ⟨rfl, rfl⟩) | (go_at_call 76; refine (contains_any _ deps _ _ HD0.out).mono ?_; rintro e w' ⟨rfl, rfl⟩))
      go_ret
      exact ⟨ret_int (HNo.out (by rw [Hhb2.out]; simp)).symm, by (repeat (first | exact Below.refl _ _ | assumption | refine Below.drewN ?_ _ | refine Below.drew ?_ | refine Below.alloc ?_ (by simp <;> omega) _))⟩
    · cases hi : hasZ deps id
      · have hb2 : (risingZ deps && !hasZ deps id) = true := by rw [hr, hi]; rfl
        have Hhb2 := Go.Lib.hid hb2; clear hb2
        by_cases x : at_.length = 0
        · have x1 : ¬ 0 < at_.length := by omega
          have hb3 : (at_.length == 0) = true := by simpa using x
          have hb5 : allTo (atAt at_) at_.length = true := by rw [x]; rfl
          have Hhb3 := Go.Lib.hid hb3; clear hb3; have Hx := Go.Lib.hid x; clear x; have Hhb5 := Go.Lib.hid hb5; clear hb5
          by_cases l : at_.length = vals.length
          · have l1 : ((at_.length : Int) != (vals.length : Int)) = false := by simp [l]
            have hb4 : (at_.length == vals.length) = true := by simpa using l
            have hb6 : allTo (valAt vals) vals.length = true := by rw [← l, Hx.out]; rfl
            have Hhb4 := Go.Lib.hid hb4; clear hb4; have Hl := Go.Lib.hid l; clear l; have Hhb6 := Go.Lib.hid hb6; clear hb6
            go_enter Try.func32, Try.ntmps32
            go_wp2_with (first | (go_at_call 75; refine (rising_any _ deps _ HD0.out).mono ?_; rintro e w' ⟨rfl, rfl⟩) | (go_at_call 76; refine (contains_any _ deps _ _ HD0.out).mono ?_; rintro e w' ⟨rfl, rfl⟩))
            go_loop [110] (fun i => i = .int .i64 0) (fun _ => 0)
            case atStart => rfl
            case round =>
              obtain rfl := hrel
              go_wp2_with fail
              go_ret
              exact ⟨ret_int (HYes.out (by rw [Hhb.out, Hhb2.out, Hhb3.out, Hhb4.out, Hhb5.out, Hhb6.out]; rfl)).symm, by (repeat (first | exact Below.refl _ _ | assumption | refine Below.drewN ?_ _ | refine Below.drew ?_ | refine Below.alloc ?_ (by simp <;> omega) _))⟩
          · have l1 : ((at_.length : Int) != (vals.length : Int)) = true := by simp; omega
            have hb4 : (at_.length == vals.length) = false := by simpa using l
            have Hhb4 := Go.Lib.hid hb4; clear hb4; have Hl := Go.Lib.hid l; clear l
            go_enter Try.func32, Try.ntmps32
            go_wp2_with (first | (go_at_call 75; refine (rising_any _ deps _ HD0.out).mono ?_; rintro e w' ⟨rfl, rfl⟩) | (go_at_call 76; refine (contains_any _ deps _ _ HD0.out).mono ?_; rintro e w' ⟨rfl, rfl⟩))
            go_ret
            exact ⟨ret_int (HNo.out (by rw [Hhb4.out]; simp)).symm, by (repeat (first | exact Below.refl _ _ | assumption | refine Below.drewN ?_ _ | refine Below.drew ?_ | refine Below.alloc ?_ (by simp <;> omega) _))⟩
        · have x1 : 0 < at_.length := by omega
          have hb3 : (at_.length == 0) = false := by simpa using x
          have Hhb3 := Go.Lib.hid hb3; clear hb3; have Hx := Go.Lib.hid x; clear x
          go_enter Try.func32, Try.ntmps32
          go_wp2_with (first | (go_at_call 75; refine (rising_any _ deps _ HD0.out).mono ?_; rintro e w' ⟨rfl, rfl⟩) | (go_at_call 76; refine (contains_any _ deps _ _ HD0.out).mono ?_; rintro e w' ⟨rfl, rfl⟩))
          go_ret
          exact ⟨ret_int (HNo.out (by rw [Hhb3.out]; simp)).symm, by (repeat (first | exact Below.refl _ _ | assumption | refine Below.drewN ?_ _ | refine Below.drew ?_ | refine Below.alloc ?_ (by simp <;> omega) _))⟩
      · have hb2 : (risingZ deps && !hasZ deps id) = false := by rw [hr, hi]; rfl
        have Hhb2 := Go.Lib.hid hb2; clear hb2
        go_enter Try.func32, Try.ntmps32
        go_wp2_with (first | (go_at_call 75; refine (rising_any _ deps _ HD0.out).mono ?_; rintro e w' ⟨rfl, rfl⟩) | (go_at_call 76; refine (contains_any _ deps _ _ HD0.out).mono ?_; rintro e w' ⟨rfl, rfl⟩))
        go_ret
        exact ⟨ret_int (HNo.out (by rw [Hhb2.out]; simp)).symm, by (repeat (first | exact Below.refl _ _ | assumption | refine Below.drewN ?_ _ | refine Below.drew ?_ | refine Below.alloc ?_ (by simp <;> omega) _))⟩
  · have z1 : 0 < ops.length := by omega
    have hb : (ops.length == 0) = false := by simpa using z
    have Hhb := Go.Lib.hid hb; clear hb; have Hz := Go.Lib.hid z; clear z
    go_enter Try.func32, Try.ntmps32
    go_wp2_with (first | (go_at_call 75; refine (rising_any _ deps _ HD0.out).mono ?_; rintro e w' ⟨rfl, rfl⟩) | (go_at_call 76; refine (contains_any _ deps _ _ HD0.out).mono ?_; rintro e w' ⟨rfl, rfl⟩))
    go_ret
    exact ⟨ret_int (HNo.out (by rw [Hhb.out]; rfl)).symm, by (repeat (first | exact Below.refl _ _ | assumption | refine Below.drewN ?_ _ | refine Below.drew ?_ | refine Below.alloc ?_ (by simp <;> omega) _))⟩

set_option maxRecDepth 100000 in
set_option maxHeartbeats 4000000 in
theorem good_3 {S : Nat → Prop} (node id : Int) (ops : List GOp) (deps at_ vals : List Int) (vo vd va vv : Value) (w : World) (n1 : 0 ≤ node) (n2 : node < 6) (n3 : 0 ≤ id) (n4 : id < 32)
    (ho : ROps S w vo ops) (hd : RInts S w vd deps) (ha : RInts S w va at_) (hv : RInts S w vv vals) :
    Calls Try.prog 32 #[.agg #[.int .i64 3, .int .i64 node, .int .i64 id, vo, vd, va, vv]] w fun e w' => e = .returned (.int .i64 (frameZ ⟨3, node, id, ops, deps, at_, vals⟩)) ∧ Below w.heap.size w w' := by
  obtain ⟨ao, capo, rfl, hmo⟩ := ho.shape
  obtain ⟨ad, capd, rfl, hmd⟩ := hd.shape
  obtain ⟨aa, capa, rfl, hma⟩ := ha.shape
  obtain ⟨av, capv, rfl, hmv⟩ := hv.shape
  have hk : ¬ ((⟨3, node, id, ops, deps, at_, vals⟩ : GFrame).kind < 1 ∨ 5 < (⟨3, node, id, ops, deps, at_, vals⟩ : GFrame).kind) := by show ¬ ((3 : Int) < 1 ∨ 5 < (3 : Int)); omega
  have hr : ¬ ((⟨3, node, id, ops, deps, at_, vals⟩ : GFrame).node < 0 ∨ 6 ≤ (⟨3, node, id, ops, deps, at_, vals⟩ : GFrame).node ∨ (⟨3, node, id, ops, deps, at_, vals⟩ : GFrame).id < 0 ∨ 32 ≤ (⟨3, node, id, ops, deps, at_, vals⟩ : GFrame).id) := by show ¬ (node < 0 ∨ 6 ≤ node ∨ id < 0 ∨ 32 ≤ id); omega
  have HNo := Go.Lib.hid (frameZ_form hk hr)
  have HYes := Go.Lib.hid (frameZ_ok hk hr)
  clear hk hr
  have ho1 : opsPart ⟨3, node, id, ops, deps, at_, vals⟩ = goodOpsZ ops := by unfold opsPart; simp
  have hd1 : depsPart ⟨3, node, id, ops, deps, at_, vals⟩ = (risingZ deps && !hasZ deps id) := by unfold depsPart; simp
  have ha1 : atPart ⟨3, node, id, ops, deps, at_, vals⟩ = ((at_.length == 0) && (at_.length == vals.length && (allTo (atAt at_) at_.length && allTo (valAt vals) vals.length))) := by unfold atPart; simp
  rw [ho1, hd1, ha1] at HNo HYes
  clear ho1 hd1 ha1
  have Hho := Go.Lib.hid ho; clear ho; have Hhd := Go.Lib.hid hd; clear hd; have Hha := Go.Lib.hid ha; clear ha; have Hhv := Go.Lib.hid hv; clear hv
  have HD0 := Go.Lib.hid (RInts.later Hhd.out ((Below.refl _ _).alloc (Nat.le_refl _) (.cells #[.int .i64 3, .int .i64 node, .int .i64 id, .slice ao ops.length capo, .slice ad deps.length capd, .slice aa at_.length capa, .slice av vals.length capv] 50)))
  by_cases z : ops.length = 0
  · have z1 : ¬ 0 < ops.length := by omega
    have hb : goodOpsZ ops = false := by obtain rfl := List.eq_nil_of_length_eq_zero z; rfl
    have Hhb := Go.Lib.hid hb; clear hb; have Hz := Go.Lib.hid z; clear z
    go_enter Try.func32, Try.ntmps32
    go_wp2_with (first | (go_at_call 75; refine (rising_any _ deps _ HD0.out).mono ?_; rintro e w' ⟨rfl, rfl⟩) | (go_at_call 76; refine (contains_any _ deps _ _ HD0.out).mono ?_; rintro e w' ⟨rfl, rfl⟩))
    go_ret
    exact ⟨ret_int (HNo.out (by rw [Hhb.out]; rfl)).symm, by (repeat (first | exact Below.refl _ _ | assumption | refine Below.drewN ?_ _ | refine Below.drew ?_ | refine Below.alloc ?_ (by simp <;> omega) _))⟩
  · have z1 : 0 < ops.length := by omega
    have Hz := Go.Lib.hid z; clear z
    go_enter Try.func32, Try.ntmps32
    go_wp2_with fail
    refine (goodOps_any _ ops _ (ROps.later Hho.out ((Below.refl _ _).alloc (Nat.le_refl _) _))).mono ?_
    rintro e w1 ⟨rfl, hb1⟩
    have HB1 := Go.Lib.hid (((Below.refl w.heap.size w).alloc (Nat.le_refl _) _).trans (hb1.mono (by simp)))
    have hz1 : w.heap.size < w1.heap.size := Nat.lt_of_lt_of_le (by simp) hb1.size
    have hcl : ∀ i, w1.cell? ⟨w.heap.size, i, none⟩ = _ := fun i => hb1.cell (p := ⟨w.heap.size, i, none⟩) (by simp)
    have q0 : w1.cell? ⟨w.heap.size, 0, none⟩ = some (.int .i64 3) := by rw [hcl]; go_simp
    have q1 : w1.cell? ⟨w.heap.size, 1, none⟩ = some (.int .i64 node) := by rw [hcl]; go_simp
    have q2 : w1.cell? ⟨w.heap.size, 2, none⟩ = some (.int .i64 id) := by rw [hcl]; go_simp
    have q3 : w1.cell? ⟨w.heap.size, 3, none⟩ = some (.slice ao ops.length capo) := by rw [hcl]; go_simp
    have q4 : w1.cell? ⟨w.heap.size, 4, none⟩ = some (.slice ad deps.length capd) := by rw [hcl]; go_simp
    have q5 : w1.cell? ⟨w.heap.size, 5, none⟩ = some (.slice aa at_.length capa) := by rw [hcl]; go_simp
    have q6 : w1.cell? ⟨w.heap.size, 6, none⟩ = some (.slice av vals.length capv) := by rw [hcl]; go_simp
    clear hb1 hcl
    have HD1 := Go.Lib.hid (RInts.later Hhd.out HB1.out)
    cases hg : goodOpsZ ops
    · have Hhg := Go.Lib.hid hg; clear hg
      go_wp2_with (first | (go_at_call 75; refine (rising_any _ deps _ HD1.out).mono ?_; rintro e w' ⟨rfl, rfl⟩) | (go_at_call 76; refine (contains_any _ deps _ _ HD1.out).mono ?_; rintro e w' ⟨rfl, rfl⟩))
      go_ret
      exact ⟨ret_int (HNo.out (by rw [Hhg.out]; rfl)).symm, HB1.out⟩
    · have Hhg := Go.Lib.hid hg; clear hg
      cases hr : risingZ deps
      · have hb2 : (risingZ deps && !hasZ deps id) = false := by rw [hr]; rfl
        have Hhb2 := Go.Lib.hid hb2; clear hb2
        go_wp2_with (first | (go_at_call 75; refine (rising_any _ deps _ HD1.out).mono ?_; rintro e w' ⟨rfl, rfl⟩) | (go_at_call 76; refine (contains_any _ deps _ _ HD1.out).mono ?_; rintro e w' ⟨rfl, rfl⟩))
        go_ret
        exact ⟨ret_int (HNo.out (by rw [Hhb2.out]; simp)).symm, HB1.out⟩
      · cases hi : hasZ deps id
        · have hb2 : (risingZ deps && !hasZ deps id) = true := by rw [hr, hi]; rfl
          have Hhb2 := Go.Lib.hid hb2; clear hb2
          by_cases x : at_.length = 0
          · have x1 : ¬ 0 < at_.length := by omega
            have hb3 : (at_.length == 0) = true := by simpa using x
            have hb5 : allTo (atAt at_) at_.length = true := by rw [x]; rfl
            have Hhb3 := Go.Lib.hid hb3; clear hb3; have Hx := Go.Lib.hid x; clear x; have Hhb5 := Go.Lib.hid hb5; clear hb5
            by_cases l : at_.length = vals.length
            · have l1 : ((at_.length : Int) != (vals.length : Int)) = false := by simp [l]
              have hb4 : (at_.length == vals.length) = true := by simpa using l
              have hb6 : allTo (valAt vals) vals.length = true := by rw [← l, Hx.out]; rfl
              have Hhb4 := Go.Lib.hid hb4; clear hb4; have Hl := Go.Lib.hid l; clear l; have Hhb6 := Go.Lib.hid hb6; clear hb6
              go_wp2_with (first | (go_at_call 75; refine (rising_any _ deps _ HD1.out).mono ?_; rintro e w' ⟨rfl, rfl⟩) | (go_at_call 76; refine (contains_any _ deps _ _ HD1.out).mono ?_; rintro e w' ⟨rfl, rfl⟩))
              go_loop [110] (fun i => i = .int .i64 0) (fun _ => 0)
              case atStart => rfl
              case round =>
                obtain rfl := hrel
                go_wp2_with fail
                go_ret
                exact ⟨ret_int (HYes.out (by rw [Hhg.out, Hhb2.out, Hhb3.out, Hhb4.out, Hhb5.out, Hhb6.out]; rfl)).symm, HB1.out⟩
            · have l1 : ((at_.length : Int) != (vals.length : Int)) = true := by simp; omega
              have hb4 : (at_.length == vals.length) = false := by simpa using l
              have Hhb4 := Go.Lib.hid hb4; clear hb4; have Hl := Go.Lib.hid l; clear l
              go_wp2_with (first | (go_at_call 75; refine (rising_any _ deps _ HD1.out).mono ?_; rintro e w' ⟨rfl, rfl⟩) | (go_at_call 76; refine (contains_any _ deps _ _ HD1.out).mono ?_; rintro e w' ⟨rfl, rfl⟩))
              go_ret
              exact ⟨ret_int (HNo.out (by rw [Hhb4.out]; simp)).symm, HB1.out⟩
          · have x1 : 0 < at_.length := by omega
            have hb3 : (at_.length == 0) = false := by simpa using x
            have Hhb3 := Go.Lib.hid hb3; clear hb3; have Hx := Go.Lib.hid x; clear x
            go_wp2_with (first | (go_at_call 75; refine (rising_any _ deps _ HD1.out).mono ?_; rintro e w' ⟨rfl, rfl⟩) | (go_at_call 76; refine (contains_any _ deps _ _ HD1.out).mono ?_; rintro e w' ⟨rfl, rfl⟩))
            go_ret
            exact ⟨ret_int (HNo.out (by rw [Hhb3.out]; simp)).symm, HB1.out⟩
        · have hb2 : (risingZ deps && !hasZ deps id) = false := by rw [hr, hi]; rfl
          have Hhb2 := Go.Lib.hid hb2; clear hb2
          go_wp2_with (first | (go_at_call 75; refine (rising_any _ deps _ HD1.out).mono ?_; rintro e w' ⟨rfl, rfl⟩) | (go_at_call 76; refine (contains_any _ deps _ _ HD1.out).mono ?_; rintro e w' ⟨rfl, rfl⟩))
          go_ret
          exact ⟨ret_int (HNo.out (by rw [Hhb2.out]; simp)).symm, HB1.out⟩

set_option maxRecDepth 100000 in
set_option maxHeartbeats 4000000 in
theorem good_4 {S : Nat → Prop} (node id : Int) (ops : List GOp) (deps at_ vals : List Int) (vo vd va vv : Value) (w : World) (n1 : 0 ≤ node) (n2 : node < 6) (n3 : 0 ≤ id) (n4 : id < 32)
    (ho : ROps S w vo ops) (hd : RInts S w vd deps) (ha : RInts S w va at_) (hv : RInts S w vv vals) :
    Calls Try.prog 32 #[.agg #[.int .i64 4, .int .i64 node, .int .i64 id, vo, vd, va, vv]] w fun e w' => e = .returned (.int .i64 (frameZ ⟨4, node, id, ops, deps, at_, vals⟩)) ∧ Below w.heap.size w w' := by
  obtain ⟨ao, capo, rfl, hmo⟩ := ho.shape
  obtain ⟨ad, capd, rfl, hmd⟩ := hd.shape
  obtain ⟨aa, capa, rfl, hma⟩ := ha.shape
  obtain ⟨av, capv, rfl, hmv⟩ := hv.shape
  have hk : ¬ ((⟨4, node, id, ops, deps, at_, vals⟩ : GFrame).kind < 1 ∨ 5 < (⟨4, node, id, ops, deps, at_, vals⟩ : GFrame).kind) := by show ¬ ((4 : Int) < 1 ∨ 5 < (4 : Int)); omega
  have hr : ¬ ((⟨4, node, id, ops, deps, at_, vals⟩ : GFrame).node < 0 ∨ 6 ≤ (⟨4, node, id, ops, deps, at_, vals⟩ : GFrame).node ∨ (⟨4, node, id, ops, deps, at_, vals⟩ : GFrame).id < 0 ∨ 32 ≤ (⟨4, node, id, ops, deps, at_, vals⟩ : GFrame).id) := by show ¬ (node < 0 ∨ 6 ≤ node ∨ id < 0 ∨ 32 ≤ id); omega
  have HNo := Go.Lib.hid (frameZ_form hk hr)
  have HYes := Go.Lib.hid (frameZ_ok hk hr)
  clear hk hr
  have ho1 : opsPart ⟨4, node, id, ops, deps, at_, vals⟩ = (ops.length == 0) := by unfold opsPart; simp
  have hd1 : depsPart ⟨4, node, id, ops, deps, at_, vals⟩ = (deps.length == 0) := by unfold depsPart; simp
  have ha1 : atPart ⟨4, node, id, ops, deps, at_, vals⟩ = ((at_.length == 0) && (at_.length == vals.length && (allTo (atAt at_) at_.length && allTo (valAt vals) vals.length))) := by unfold atPart; simp
  rw [ho1, hd1, ha1] at HNo HYes
  clear ho1 hd1 ha1
  have Hho := Go.Lib.hid ho; clear ho; have Hhd := Go.Lib.hid hd; clear hd; have Hha := Go.Lib.hid ha; clear ha; have Hhv := Go.Lib.hid hv; clear hv
  have HD0 := Go.Lib.hid (RInts.later Hhd.out ((Below.refl _ _).alloc (Nat.le_refl _) (.cells #[.int .i64 4, .int .i64 node, .int .i64 id, .slice ao ops.length capo, .slice ad deps.length capd, .slice aa at_.length capa, .slice av vals.length capv] 50)))
  by_cases z : ops.length = 0
  · have z1 : ¬ 0 < ops.length := by omega
    have hb : (ops.length == 0) = true := by simpa using z
    have Hhb := Go.Lib.hid hb; clear hb; have Hz := Go.Lib.hid z; clear z
    by_cases y : deps.length = 0
    · have hb2 : (deps.length == 0) = true := by simpa using y
      have y1 : ¬ 0 < deps.length := by omega
      have hr : risingZ deps = true := by obtain rfl := List.eq_nil_of_length_eq_zero y; rfl
      have hi : hasZ deps id = false := by obtain rfl := List.eq_nil_of_length_eq_zero y; rfl
      have Hhb2 := Go.Lib.hid hb2; clear hb2; have Hy := Go.Lib.hid y; clear y
      by_cases x : at_.length = 0
      · have x1 : ¬ 0 < at_.length := by omega
        have hb3 : (at_.length == 0) = true := by simpa using x
        have hb5 : allTo (atAt at_) at_.length = true := by rw [x]; rfl
        have Hhb3 := Go.Lib.hid hb3; clear hb3; have Hx := Go.Lib.hid x; clear x; have Hhb5 := Go.Lib.hid hb5; clear hb5
        by_cases l : at_.length = vals.length
        · have l1 : ((at_.length : Int) != (vals.length : Int)) = false := by simp [l]
          have hb4 : (at_.length == vals.length) = true := by simpa using l
          have hb6 : allTo (valAt vals) vals.length = true := by rw [← l, Hx.out]; rfl
          have Hhb4 := Go.Lib.hid hb4; clear hb4; have Hl := Go.Lib.hid l; clear l; have Hhb6 := Go.Lib.hid hb6; clear hb6
          go_enter Try.func32, Try.ntmps32
          go_wp2_with (first | (go_at_call 75; refine (rising_any _ deps _ HD0.out).mono ?_; rintro e w' ⟨rfl, rfl⟩) | (go_at_call 76; refine (contains_any _ deps _ _ HD0.out).mono ?_; rintro e w' ⟨rfl, rfl⟩))
          go_loop [110] (fun i => i = .int .i64 0) (fun _ => 0)
          case atStart => rfl
          case round =>
            obtain rfl := hrel
            go_wp2_with fail
            go_ret
            exact ⟨ret_int (HYes.out (by rw [Hhb.out, Hhb2.out, Hhb3.out, Hhb4.out, Hhb5.out, Hhb6.out]; rfl)).symm, by (repeat (first | exact Below.refl _ _ | assumption | refine Below.drewN ?_ _ | refine Below.drew ?_ | refine Below.alloc ?_ (by simp <;> omega) _))⟩
        · have l1 : ((at_.length : Int) != (vals.length : Int)) = true := by simp; omega
          have hb4 : (at_.length == vals.length) = false := by simpa using l
          have Hhb4 := Go.Lib.hid hb4; clear hb4; have Hl := Go.Lib.hid l; clear l
          go_enter Try.func32, Try.ntmps32
          go_wp2_with (first | (go_at_call 75; refine (rising_any _ deps _ HD0.out).mono ?_; rintro e w' ⟨rfl, rfl⟩) | (go_at_call 76; refine (contains_any _ deps _ _ HD0.out).mono ?_; rintro e w' ⟨rfl, rfl⟩))
          go_ret
          exact ⟨ret_int (HNo.out (by rw [Hhb4.out]; simp)).symm, by (repeat (first | exact Below.refl _ _ | assumption | refine Below.drewN ?_ _ | refine Below.drew ?_ | refine Below.alloc ?_ (by simp <;> omega) _))⟩
      · have x1 : 0 < at_.length := by omega
        have hb3 : (at_.length == 0) = false := by simpa using x
        have Hhb3 := Go.Lib.hid hb3; clear hb3; have Hx := Go.Lib.hid x; clear x
        go_enter Try.func32, Try.ntmps32
        go_wp2_with (first | (go_at_call 75; refine (rising_any _ deps _ HD0.out).mono ?_; rintro e w' ⟨rfl, rfl⟩) | (go_at_call 76; refine (contains_any _ deps _ _ HD0.out).mono ?_; rintro e w' ⟨rfl, rfl⟩))
        go_ret
        exact ⟨ret_int (HNo.out (by rw [Hhb3.out]; simp)).symm, by (repeat (first | exact Below.refl _ _ | assumption | refine Below.drewN ?_ _ | refine Below.drew ?_ | refine Below.alloc ?_ (by simp <;> omega) _))⟩
    · have hb2 : (deps.length == 0) = false := by simpa using y
      have y1 : 0 < deps.length := by omega
      have Hhb2 := Go.Lib.hid hb2; clear hb2; have Hy := Go.Lib.hid y; clear y
      go_enter Try.func32, Try.ntmps32
      go_wp2_with (first | (go_at_call 75; refine (rising_any _ deps _ HD0.out).mono ?_; rintro e w' ⟨rfl, rfl⟩) | (go_at_call 76; refine (contains_any _ deps _ _ HD0.out).mono ?_; rintro e w' ⟨rfl, rfl⟩))
      go_ret
      exact ⟨ret_int (HNo.out (by rw [Hhb2.out]; simp)).symm, by (repeat (first | exact Below.refl _ _ | assumption | refine Below.drewN ?_ _ | refine Below.drew ?_ | refine Below.alloc ?_ (by simp <;> omega) _))⟩
  · have z1 : 0 < ops.length := by omega
    have hb : (ops.length == 0) = false := by simpa using z
    have Hhb := Go.Lib.hid hb; clear hb; have Hz := Go.Lib.hid z; clear z
    go_enter Try.func32, Try.ntmps32
    go_wp2_with (first | (go_at_call 75; refine (rising_any _ deps _ HD0.out).mono ?_; rintro e w' ⟨rfl, rfl⟩) | (go_at_call 76; refine (contains_any _ deps _ _ HD0.out).mono ?_; rintro e w' ⟨rfl, rfl⟩))
    go_ret
    exact ⟨ret_int (HNo.out (by rw [Hhb.out]; rfl)).symm, by (repeat (first | exact Below.refl _ _ | assumption | refine Below.drewN ?_ _ | refine Below.drew ?_ | refine Below.alloc ?_ (by simp <;> omega) _))⟩


end Go.Proofs.Ytnfdgjdnlikepab