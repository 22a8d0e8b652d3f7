/- What the reference finds of a frame. (Written by gen_isframe.py.) -/
import Derived.Test.YtnfdgjdnlikepabWired
namespace Go.Proofs.Ytnfdgjdnlikepab
open Go.RowKit

set_option maxRecDepth 100000 in
set_option maxHeartbeats 8000000 in
theorem isFrame_3 {S : Nat → Prop} (node id : Int) (ops : List GOp) (deps at_ vals : List Int) (vo vd va vv : Value) (w : World) (n1 : 0 ≤ node) (n2 : node < 6) (n3 : 0 ≤ id) (n4 : id < 32)
    (ho : ROps S w vo ops) (hd : RInts S w vd deps) (ha : RInts S w va at_) (hv : RInts S w vv vals) :
    Calls Try.prog 70 #[.agg #[.int .i64 3, .int .i64 node, .int .i64 id, vo, vd, va, vv]] w fun e w' => e = .returned (.int .i64 (frameZ ⟨3, node, id, ops, deps, at_, vals⟩)) ∧ Below w.heap.size w w' := by
  obtain ⟨ao, capo, rfl, hmo⟩ := ho.shape
  obtain ⟨ad, capd, rfl, hmd⟩ := hd.shape
  obtain ⟨aa, capa, rfl, hma⟩ := ha.shape
  obtain ⟨av, capv, rfl, hmv⟩ := hv.shape
  have hid : decide (0 ≤ id ∧ id < 32) = true := by simp; omega
  have hk : ¬ ((⟨3, node, id, ops, deps, at_, vals⟩ : GFrame).kind < 1 ∨ 5 < (⟨3, node, id, ops, deps, at_, vals⟩ : GFrame).kind) := by show ¬ ((3 : Int) < 1 ∨ 5 < (3 : Int)); omega
  have hr : ¬ ((⟨3, node, id, ops, deps, at_, vals⟩ : GFrame).node < 0 ∨ 6 ≤ (⟨3, node, id, ops, deps, at_, vals⟩ : GFrame).node ∨ (⟨3, node, id, ops, deps, at_, vals⟩ : GFrame).id < 0 ∨ 32 ≤ (⟨3, node, id, ops, deps, at_, vals⟩ : GFrame).id) := by show ¬ (node < 0 ∨ 6 ≤ node ∨ id < 0 ∨ 32 ≤ id); omega
  have HNo := Go.Lib.hid (frameZ_form hk hr)
  have HYes := Go.Lib.hid (frameZ_ok hk hr)
  clear hk hr
  have ho1 : opsPart ⟨3, node, id, ops, deps, at_, vals⟩ = goodOpsZ ops := by unfold opsPart; simp
  have hd1 : depsPart ⟨3, node, id, ops, deps, at_, vals⟩ = (risingZ deps && !hasZ deps id) := by unfold depsPart; simp
  have ha1 : atPart ⟨3, node, id, ops, deps, at_, vals⟩ = ((at_.length == 0) && (at_.length == vals.length && (allTo (atAt at_) at_.length && allTo (valAt vals) vals.length))) := by unfold atPart; simp
  rw [ho1, hd1, ha1] at HNo HYes
  clear ho1 hd1 ha1
  have Hho := Go.Lib.hid ho; clear ho; have Hhd := Go.Lib.hid hd; clear hd; have Hha := Go.Lib.hid ha; clear ha; have Hhv := Go.Lib.hid hv; clear hv
  go_enter Try.func70, Try.ntmps70
  go_wp2_with (go_at_call 101; refine (isTxn_any _ _).mono ?_; rintro e w' ⟨rfl, rfl⟩)
  refine (isOps_any _ ops _ (ROps.later Hho.out ((Below.refl _ _).alloc (Nat.le_refl _) _))).mono ?_
  rintro e w1 ⟨rfl, hb1⟩
  have HB1 := Go.Lib.hid (((Below.refl w.heap.size w).alloc (Nat.le_refl _) _).trans (hb1.mono (by simp)))
  have hz1 : w.heap.size < w1.heap.size := Nat.lt_of_lt_of_le (by simp) hb1.size
  have hcl : ∀ i, w1.cell? ⟨w.heap.size, i, none⟩ = _ := fun i => hb1.cell (p := ⟨w.heap.size, i, none⟩) (by simp)
  have q0 : w1.cell? ⟨w.heap.size, 0, none⟩ = some (.int .i64 3) := by rw [hcl]; go_simp
  have q1 : w1.cell? ⟨w.heap.size, 1, none⟩ = some (.int .i64 node) := by rw [hcl]; go_simp
  have q2 : w1.cell? ⟨w.heap.size, 2, none⟩ = some (.int .i64 id) := by rw [hcl]; go_simp
  have q3 : w1.cell? ⟨w.heap.size, 3, none⟩ = some (.slice ao ops.length capo) := by rw [hcl]; go_simp
  have q4 : w1.cell? ⟨w.heap.size, 4, none⟩ = some (.slice ad deps.length capd) := by rw [hcl]; go_simp
  have q5 : w1.cell? ⟨w.heap.size, 5, none⟩ = some (.slice aa at_.length capa) := by rw [hcl]; go_simp
  have q6 : w1.cell? ⟨w.heap.size, 6, none⟩ = some (.slice av vals.length capv) := by rw [hcl]; go_simp
  clear hb1 hcl
  have HD1 := Go.Lib.hid (RInts.later Hhd.out HB1.out)
  have HA := Go.Lib.hid (RInts.later Hha.out HB1.out)
  have HV := Go.Lib.hid (RInts.later Hhv.out HB1.out)
  cases hg : goodOpsZ ops
  · have Hhg := Go.Lib.hid hg; clear hg
    go_wp2_with (first | (go_at_call 101; refine (isTxn_any _ _).mono ?_; rintro e w' ⟨rfl, rfl⟩) | (go_at_call 100; refine (isRising_any _ deps _ HD1.out).mono ?_; rintro e w' ⟨rfl, rfl⟩) | (go_at_call 83; refine (refHas_any _ deps _ _ HD1.out).mono ?_; rintro e w' ⟨rfl, rfl⟩))
    go_loop [3, 4, 88] (fun v3 last i => ∃ k : Nat, k ≤ at_.length ∧ i = .int .i64 k ∧ ∃ p : Int, last = .int .i64 p ∧ (0 < k → p = at_.getD (k - 1) 0) ∧ (k = 0 → p = -1) ∧ v3 = .bool false) (fun _ _ i => at_.length - (intOf i).toNat)
    case atStart => exact ⟨0, Nat.zero_le _, rfl, -1, rfl, by omega, by omega, rfl⟩
    case round =>
      obtain ⟨k, hk, rfl, p, rfl, hp2, hp3, rfl⟩ := hrel
      by_cases hlt : k < at_.length
      · obtain ⟨x, hx⟩ := some_at hlt
        obtain ⟨b, off, rfl, hs, hbs, h0⟩ := HA.out.at hx
        have hxl : x = at_.getD (k + 1 - 1) 0 := by simp [hx]
        clear hs hbs
        have Hhx := Go.Lib.hid hx; clear hx; have Hhxl := Go.Lib.hid hxl; clear hxl; have Hhp2 := Go.Lib.hid hp2; clear hp2; have Hhp3 := Go.Lib.hid hp3; clear hp3
        go_wp2_with fail
        go_round
        case rel => exact ⟨k + 1, by omega, by go_num, x, rfl, fun _ => Hhxl.out, by omega, rfl⟩
        case measure => simp [intOf]; omega
      · have hkl : k = at_.length := by omega
        have Hhp2 := Go.Lib.hid hp2; clear hp2; have Hhp3 := Go.Lib.hid hp3; clear hp3
        clear hkl
        go_wp2_with fail
        go_loop [3, 107] (fun v3 i => ∃ m : Nat, m ≤ vals.length ∧ i = .int .i64 m ∧ v3 = .bool false) (fun _ i => vals.length - (intOf i).toNat)
        case atStart => exact ⟨0, Nat.zero_le _, rfl, rfl⟩
        case round =>
          obtain ⟨m, hm, rfl, rfl⟩ := hrel
          by_cases hmt : m < vals.length
          · obtain ⟨z, hz⟩ := some_at hmt
            obtain ⟨b, off, rfl, hs, hbs, h0⟩ := HV.out.at hz
            clear hs hbs
            have Hhz := Go.Lib.hid hz; clear hz
            go_wp2_with fail
            go_round
            case rel => exact ⟨m + 1, by omega, by go_num, rfl⟩
            case measure => simp [intOf]; omega
          · have hml : m = vals.length := by omega
            clear hml
            go_wp2_with fail
            go_ret
            exact ⟨ret_int (HNo.out (by rw [Hhg.out]; simp)).symm, HB1.out⟩
  · have Hhg := Go.Lib.hid hg; clear hg
    cases hr : risingZ deps
    · have hb2 : (risingZ deps && !hasZ deps id) = false := by rw [hr]; rfl
      have Hhb2 := Go.Lib.hid hb2; clear hb2
      go_wp2_with (first | (go_at_call 101; refine (isTxn_any _ _).mono ?_; rintro e w' ⟨rfl, rfl⟩) | (go_at_call 100; refine (isRising_any _ deps _ HD1.out).mono ?_; rintro e w' ⟨rfl, rfl⟩) | (go_at_call 83; refine (refHas_any _ deps _ _ HD1.out).mono ?_; rintro e w' ⟨rfl, rfl⟩))
      go_loop [3, 4, 88] (fun v3 last i => ∃ k : Nat, k ≤ at_.length ∧ i = .int .i64 k ∧ ∃ p : Int, last = .int .i64 p ∧ (0 < k → p = at_.getD (k - 1) 0) ∧ (k = 0 → p = -1) ∧ v3 = .bool false) (fun _ _ i => at_.length - (intOf i).toNat)
      case atStart => exact ⟨0, Nat.zero_le _, rfl, -1, rfl, by omega, by omega, rfl⟩
      case round =>
        obtain ⟨k, hk, rfl, p, rfl, hp2, hp3, rfl⟩ := hrel
        by_cases hlt : k < at_.length
        · obtain ⟨x, hx⟩ := some_at hlt
          obtain ⟨b, off, rfl, hs, hbs, h0⟩ := HA.out.at hx
          have hxl : x = at_.getD (k + 1 - 1) 0 := by simp [hx]
          clear hs hbs
          have Hhx := Go.Lib.hid hx; clear hx; have Hhxl := Go.Lib.hid hxl; clear hxl; have Hhp2 := Go.Lib.hid hp2; clear hp2; have Hhp3 := Go.Lib.hid hp3; clear hp3
          go_wp2_with fail
          go_round
          case rel => exact ⟨k + 1, by omega, by go_num, x, rfl, fun _ => Hhxl.out, by omega, rfl⟩
          case measure => simp [intOf]; omega
        · have hkl : k = at_.length := by omega
          have Hhp2 := Go.Lib.hid hp2; clear hp2; have Hhp3 := Go.Lib.hid hp3; clear hp3
          clear hkl
          go_wp2_with fail
          go_loop [3, 107] (fun v3 i => ∃ m : Nat, m ≤ vals.length ∧ i = .int .i64 m ∧ v3 = .bool false) (fun _ i => vals.length - (intOf i).toNat)
          case atStart => exact ⟨0, Nat.zero_le _, rfl, rfl⟩
          case round =>
            obtain ⟨m, hm, rfl, rfl⟩ := hrel
            by_cases hmt : m < vals.length
            · obtain ⟨z, hz⟩ := some_at hmt
              obtain ⟨b, off, rfl, hs, hbs, h0⟩ := HV.out.at hz
              clear hs hbs
              have Hhz := Go.Lib.hid hz; clear hz
              go_wp2_with fail
              go_round
              case rel => exact ⟨m + 1, by omega, by go_num, rfl⟩
              case measure => simp [intOf]; omega
            · have hml : m = vals.length := by omega
              clear hml
              go_wp2_with fail
              go_ret
              exact ⟨ret_int (HNo.out (by rw [Hhb2.out]; simp)).symm, HB1.out⟩
    · cases hi : hasZ deps id
      · have hb2 : (risingZ deps && !hasZ deps id) = true := by rw [hr, hi]; rfl
        have Hhb2 := Go.Lib.hid hb2; clear hb2
        cases hx9 : (at_.length == 0)
        · have x1 : ((at_.length : Int) == 0) = false := by simp at hx9 ⊢; omega
          have Hhx9 := Go.Lib.hid hx9; clear hx9
          go_wp2_with (first | (go_at_call 101; refine (isTxn_any _ _).mono ?_; rintro e w' ⟨rfl, rfl⟩) | (go_at_call 100; refine (isRising_any _ deps _ HD1.out).mono ?_; rintro e w' ⟨rfl, rfl⟩) | (go_at_call 83; refine (refHas_any _ deps _ _ HD1.out).mono ?_; rintro e w' ⟨rfl, rfl⟩))
          go_loop [3, 4, 88] (fun v3 last i => ∃ k : Nat, k ≤ at_.length ∧ i = .int .i64 k ∧ ∃ p : Int, last = .int .i64 p ∧ (0 < k → p = at_.getD (k - 1) 0) ∧ (k = 0 → p = -1) ∧ v3 = .bool false) (fun _ _ i => at_.length - (intOf i).toNat)
          case atStart => exact ⟨0, Nat.zero_le _, rfl, -1, rfl, by omega, by omega, rfl⟩
          case round =>
            obtain ⟨k, hk, rfl, p, rfl, hp2, hp3, rfl⟩ := hrel
            by_cases hlt : k < at_.length
            · obtain ⟨x, hx⟩ := some_at hlt
              obtain ⟨b, off, rfl, hs, hbs, h0⟩ := HA.out.at hx
              have hxl : x = at_.getD (k + 1 - 1) 0 := by simp [hx]
              clear hs hbs
              have Hhx := Go.Lib.hid hx; clear hx; have Hhxl := Go.Lib.hid hxl; clear hxl; have Hhp2 := Go.Lib.hid hp2; clear hp2; have Hhp3 := Go.Lib.hid hp3; clear hp3
              go_wp2_with fail
              go_round
              case rel => exact ⟨k + 1, by omega, by go_num, x, rfl, fun _ => Hhxl.out, by omega, rfl⟩
              case measure => simp [intOf]; omega
            · have hkl : k = at_.length := by omega
              have Hhp2 := Go.Lib.hid hp2; clear hp2; have Hhp3 := Go.Lib.hid hp3; clear hp3
              clear hkl
              go_wp2_with fail
              go_loop [3, 107] (fun v3 i => ∃ m : Nat, m ≤ vals.length ∧ i = .int .i64 m ∧ v3 = .bool false) (fun _ i => vals.length - (intOf i).toNat)
              case atStart => exact ⟨0, Nat.zero_le _, rfl, rfl⟩
              case round =>
                obtain ⟨m, hm, rfl, rfl⟩ := hrel
                by_cases hmt : m < vals.length
                · obtain ⟨z, hz⟩ := some_at hmt
                  obtain ⟨b, off, rfl, hs, hbs, h0⟩ := HV.out.at hz
                  clear hs hbs
                  have Hhz := Go.Lib.hid hz; clear hz
                  go_wp2_with fail
                  go_round
                  case rel => exact ⟨m + 1, by omega, by go_num, rfl⟩
                  case measure => simp [intOf]; omega
                · have hml : m = vals.length := by omega
                  clear hml
                  go_wp2_with fail
                  go_ret
                  exact ⟨ret_int (HNo.out (by rw [Hhx9.out]; simp)).symm, HB1.out⟩
        · have x1 : ((at_.length : Int) == 0) = true := by simp at hx9 ⊢; omega
          have Hhx9 := Go.Lib.hid hx9; clear hx9
          go_wp2_with (first | (go_at_call 101; refine (isTxn_any _ _).mono ?_; rintro e w' ⟨rfl, rfl⟩) | (go_at_call 100; refine (isRising_any _ deps _ HD1.out).mono ?_; rintro e w' ⟨rfl, rfl⟩) | (go_at_call 83; refine (refHas_any _ deps _ _ HD1.out).mono ?_; rintro e w' ⟨rfl, rfl⟩))
          go_loop [3, 4, 88] (fun v3 last i => ∃ k : Nat, k ≤ at_.length ∧ i = .int .i64 k ∧ ∃ p : Int, last = .int .i64 p ∧ (0 < k → p = at_.getD (k - 1) 0) ∧ (k = 0 → p = -1) ∧ v3 = .bool (allTo (atAt at_) k)) (fun _ _ i => at_.length - (intOf i).toNat)
          case atStart => exact ⟨0, Nat.zero_le _, rfl, -1, rfl, by omega, by omega, rfl⟩
          case round =>
            obtain ⟨k, hk, rfl, p, rfl, hp2, hp3, rfl⟩ := hrel
            by_cases hlt : k < at_.length
            · obtain ⟨x, hx⟩ := some_at hlt
              obtain ⟨b, off, rfl, hs, hbs, h0⟩ := HA.out.at hx
              have hxl : x = at_.getD (k + 1 - 1) 0 := by simp [hx]
              clear hs hbs
              cases hc : allTo (atAt at_) k
              · have hst : allTo (atAt at_) (k + 1) = false := by rw [allTo_succ, hc]; rfl
                have Hhst := Go.Lib.hid hst; clear hst; have Hhc := Go.Lib.hid hc; clear hc; have Hhx := Go.Lib.hid hx; clear hx; have Hhxl := Go.Lib.hid hxl; clear hxl; have Hhp2 := Go.Lib.hid hp2; clear hp2; have Hhp3 := Go.Lib.hid hp3; clear hp3
                go_wp2_with fail
                go_round
                case rel => exact ⟨k + 1, by omega, by go_num, x, rfl, fun _ => Hhxl.out, by omega, by rw [Hhst.out]⟩
                case measure => simp [intOf]; omega
              · have hst := atAt_step hx hp2 hp3 hc
                have Hhst := Go.Lib.hid hst; clear hst; have Hhc := Go.Lib.hid hc; clear hc; have Hhx := Go.Lib.hid hx; clear hx; have Hhxl := Go.Lib.hid hxl; clear hxl; have Hhp2 := Go.Lib.hid hp2; clear hp2; have Hhp3 := Go.Lib.hid hp3; clear hp3
                by_cases c1 : p < x
                · by_cases c2 : x < 4
                  · go_wp2_with fail
                    go_round
                    case rel => exact ⟨k + 1, by omega, by go_num, x, rfl, fun _ => Hhxl.out, by omega, by rw [Hhst.out]; simp [c1, c2]⟩
                    case measure => simp [intOf]; omega
                  · go_wp2_with fail
                    go_round
                    case rel => exact ⟨k + 1, by omega, by go_num, x, rfl, fun _ => Hhxl.out, by omega, by rw [Hhst.out]; simp [c1, c2]⟩
                    case measure => simp [intOf]; omega
                · go_wp2_with fail
                  go_round
                  case rel => exact ⟨k + 1, by omega, by go_num, x, rfl, fun _ => Hhxl.out, by omega, by rw [Hhst.out]; simp [c1]⟩
                  case measure => simp [intOf]; omega
            · have hkl : k = at_.length := by omega
              have Hhp2 := Go.Lib.hid hp2; clear hp2; have Hhp3 := Go.Lib.hid hp3; clear hp3
              have ha9 : allTo (atAt at_) k = allTo (atAt at_) at_.length := by rw [hkl]
              rw [ha9]
              clear hkl ha9
              generalize hA : allTo (atAt at_) at_.length = A at *
              have HhA := Go.Lib.hid hA; clear hA
              go_wp2_with fail
              go_loop [3, 107] (fun v3 i => ∃ m : Nat, m ≤ vals.length ∧ i = .int .i64 m ∧ v3 = .bool (A && allTo (valAt vals) m)) (fun _ i => vals.length - (intOf i).toNat)
              case atStart => exact ⟨0, Nat.zero_le _, rfl, by simp [allTo]⟩
              case round =>
                obtain ⟨m, hm, rfl, rfl⟩ := hrel
                by_cases hmt : m < vals.length
                · obtain ⟨z, hz⟩ := some_at hmt
                  obtain ⟨b, off, rfl, hs, hbs, h0⟩ := HV.out.at hz
                  clear hs hbs
                  cases hc : (A && allTo (valAt vals) m)
                  · have hst : (A && allTo (valAt vals) (m + 1)) = false := by rw [allTo_succ, ← Bool.and_assoc, hc]; rfl
                    have Hhst := Go.Lib.hid hst; clear hst; have Hhc := Go.Lib.hid hc; clear hc; have Hhz := Go.Lib.hid hz; clear hz
                    go_wp2_with fail
                    go_round
                    case rel => exact ⟨m + 1, by omega, by go_num, by rw [Hhst.out]⟩
                    case measure => simp [intOf]; omega
                  · have hA1 : A = true := by revert hc; cases A <;> simp
                    have hst : (A && allTo (valAt vals) (m + 1)) = (clampZ z == z) := by rw [valAt_step hz (by revert hc; cases A <;> simp), hA1]; rfl
                    cases c1 : (clampZ z == z)
                    · have Hhst := Go.Lib.hid hst; clear hst; have Hhc := Go.Lib.hid hc; clear hc; have Hhz := Go.Lib.hid hz; clear hz; have HhA1 := Go.Lib.hid hA1; clear hA1
                      go_wp2_with (go_at_call 109; refine (bound_any _ _).mono ?_; rintro e w' ⟨rfl, rfl⟩)
                      go_round
                      case rel => exact ⟨m + 1, by omega, by go_num, by rw [Hhst.out, c1]⟩
                      case measure => simp [intOf]; omega
                    · have Hhst := Go.Lib.hid hst; clear hst; have Hhc := Go.Lib.hid hc; clear hc; have Hhz := Go.Lib.hid hz; clear hz; have HhA1 := Go.Lib.hid hA1; clear hA1
                      go_wp2_with (go_at_call 109; refine (bound_any _ _).mono ?_; rintro e w' ⟨rfl, rfl⟩)
                      go_round
                      case rel => exact ⟨m + 1, by omega, by go_num, by rw [Hhst.out, c1]⟩
                      case measure => simp [intOf]; omega
                · have hml : m = vals.length := by omega
                  have hv9 : allTo (valAt vals) m = allTo (valAt vals) vals.length := by rw [hml]
                  rw [hv9]
                  clear hml hv9
                  generalize hV : allTo (valAt vals) vals.length = V at *
                  have HhV := Go.Lib.hid hV; clear hV
                  cases hl : (at_.length == vals.length)
                  · have l1 : ((at_.length : Int) != (vals.length : Int)) = true := by simp at hl ⊢; omega
                    have Hhl := Go.Lib.hid hl; clear hl
                    cases A <;> cases V
                    all_goals
                      go_wp2_with fail
                      go_ret
                      exact ⟨ret_int (HNo.out (by rw [Hhl.out]; simp)).symm, HB1.out⟩
                  · have l1 : ((at_.length : Int) != (vals.length : Int)) = false := by simp at hl ⊢; omega
                    have Hhl := Go.Lib.hid hl; clear hl
                    cases A <;> cases V
                    · go_wp2_with fail
                      go_ret
                      exact ⟨ret_int (HNo.out (by simp)).symm, HB1.out⟩
                    · go_wp2_with fail
                      go_ret
                      exact ⟨ret_int (HNo.out (by simp)).symm, HB1.out⟩
                    · go_wp2_with fail
                      go_ret
                      exact ⟨ret_int (HNo.out (by simp)).symm, HB1.out⟩
                    · go_wp2_with fail
                      go_ret
                      exact ⟨ret_int (HYes.out (by rw [Hhg.out, Hhb2.out, Hhx9.out, Hhl.out]; rfl)).symm, HB1.out⟩
      · have hb2 : (risingZ deps && !hasZ deps id) = false := by rw [hr, hi]; rfl
        have Hhb2 := Go.Lib.hid hb2; clear hb2
        go_wp2_with (first | (go_at_call 101; refine (isTxn_any _ _).mono ?_; rintro e w' ⟨rfl, rfl⟩) | (go_at_call 100; refine (isRising_any _ deps _ HD1.out).mono ?_; rintro e w' ⟨rfl, rfl⟩) | (go_at_call 83; refine (refHas_any _ deps _ _ HD1.out).mono ?_; rintro e w' ⟨rfl, rfl⟩))
        go_loop [3, 4, 88] (fun v3 last i => ∃ k : Nat, k ≤ at_.length ∧ i = .int .i64 k ∧ ∃ p : Int, last = .int .i64 p ∧ (0 < k → p = at_.getD (k - 1) 0) ∧ (k = 0 → p = -1) ∧ v3 = .bool false) (fun _ _ i => at_.length - (intOf i).toNat)
        case atStart => exact ⟨0, Nat.zero_le _, rfl, -1, rfl, by omega, by omega, rfl⟩
        case round =>
          obtain ⟨k, hk, rfl, p, rfl, hp2, hp3, rfl⟩ := hrel
          by_cases hlt : k < at_.length
          · obtain ⟨x, hx⟩ := some_at hlt
            obtain ⟨b, off, rfl, hs, hbs, h0⟩ := HA.out.at hx
            have hxl : x = at_.getD (k + 1 - 1) 0 := by simp [hx]
            clear hs hbs
            have Hhx := Go.Lib.hid hx; clear hx; have Hhxl := Go.Lib.hid hxl; clear hxl; have Hhp2 := Go.Lib.hid hp2; clear hp2; have Hhp3 := Go.Lib.hid hp3; clear hp3
            go_wp2_with fail
            go_round
            case rel => exact ⟨k + 1, by omega, by go_num, x, rfl, fun _ => Hhxl.out, by omega, rfl⟩
            case measure => simp [intOf]; omega
          · have hkl : k = at_.length := by omega
            have Hhp2 := Go.Lib.hid hp2; clear hp2; have Hhp3 := Go.Lib.hid hp3; clear hp3
            clear hkl
            go_wp2_with fail
            go_loop [3, 107] (fun v3 i => ∃ m : Nat, m ≤ vals.length ∧ i = .int .i64 m ∧ v3 = .bool false) (fun _ i => vals.length - (intOf i).toNat)
            case atStart => exact ⟨0, Nat.zero_le _, rfl, rfl⟩
            case round =>
              obtain ⟨m, hm, rfl, rfl⟩ := hrel
              by_cases hmt : m < vals.length
              · obtain ⟨z, hz⟩ := some_at hmt
                obtain ⟨b, off, rfl, hs, hbs, h0⟩ := HV.out.at hz
                clear hs hbs
                have Hhz := Go.Lib.hid hz; clear hz
                go_wp2_with fail
                go_round
                case rel => exact ⟨m + 1, by omega, by go_num, rfl⟩
                case measure => simp [intOf]; omega
              · have hml : m = vals.length := by omega
                clear hml
                go_wp2_with fail
                go_ret
                exact ⟨ret_int (HNo.out (by rw [Hhb2.out]; simp)).symm, HB1.out⟩

set_option maxRecDepth 100000 in
set_option maxHeartbeats 8000000 in
theorem isFrame_4 {S : Nat → Prop} (node id : Int) (ops : List GOp) (deps at_ vals : List Int) (vo vd va vv : Value) (w : World) (n1 : 0 ≤ node) (n2 : node < 6) (n3 : 0 ≤ id) (n4 : id < 32)
    (ho : ROps S w vo ops) (hd : RInts S w vd deps) (ha : RInts S w va at_) (hv : RInts S w vv vals) :
    Calls Try.prog 70 #[.agg #[.int .i64 4, .int .i64 node, .int .i64 id, vo, vd, va, vv]] w fun e w' => e = .returned (.int .i64 (frameZ ⟨4, node, id, ops, deps, at_, vals⟩)) ∧ Below w.heap.size w w' := by
  obtain ⟨ao, capo, rfl, hmo⟩ := ho.shape
  obtain ⟨ad, capd, rfl, hmd⟩ := hd.shape
  obtain ⟨aa, capa, rfl, hma⟩ := ha.shape
  obtain ⟨av, capv, rfl, hmv⟩ := hv.shape
  have hid : decide (0 ≤ id ∧ id < 32) = true := by simp; omega
  have hk : ¬ ((⟨4, node, id, ops, deps, at_, vals⟩ : GFrame).kind < 1 ∨ 5 < (⟨4, node, id, ops, deps, at_, vals⟩ : GFrame).kind) := by show ¬ ((4 : Int) < 1 ∨ 5 < (4 : Int)); omega
  have hr : ¬ ((⟨4, node, id, ops, deps, at_, vals⟩ : GFrame).node < 0 ∨ 6 ≤ (⟨4, node, id, ops, deps, at_, vals⟩ : GFrame).node ∨ (⟨4, node, id, ops, deps, at_, vals⟩ : GFrame).id < 0 ∨ 32 ≤ (⟨4, node, id, ops, deps, at_, vals⟩ : GFrame).id) := by show ¬ (node < 0 ∨ 6 ≤ node ∨ id < 0 ∨ 32 ≤ id); omega
  have HNo := Go.Lib.hid (frameZ_form hk hr)
  have HYes := Go.Lib.hid (frameZ_ok hk hr)
  clear hk hr
  have ho1 : opsPart ⟨4, node, id, ops, deps, at_, vals⟩ = (ops.length == 0) := by unfold opsPart; simp
  have hd1 : depsPart ⟨4, node, id, ops, deps, at_, vals⟩ = (deps.length == 0) := by unfold depsPart; simp
  have ha1 : atPart ⟨4, node, id, ops, deps, at_, vals⟩ = ((at_.length == 0) && (at_.length == vals.length && (allTo (atAt at_) at_.length && allTo (valAt vals) vals.length))) := by unfold atPart; simp
  rw [ho1, hd1, ha1] at HNo HYes
  clear ho1 hd1 ha1
  have Hho := Go.Lib.hid ho; clear ho; have Hhd := Go.Lib.hid hd; clear hd; have Hha := Go.Lib.hid ha; clear ha; have Hhv := Go.Lib.hid hv; clear hv
  go_enter Try.func70, Try.ntmps70
  have HD0 := Go.Lib.hid (RInts.later Hhd.out ((Below.refl _ _).alloc (Nat.le_refl _) (.cells #[.int .i64 4, .int .i64 node, .int .i64 id, .slice ao ops.length capo, .slice ad deps.length capd, .slice aa at_.length capa, .slice av vals.length capv] 50)))
  have HA := Go.Lib.hid (RInts.later Hha.out ((Below.refl _ _).alloc (Nat.le_refl _) (.cells #[.int .i64 4, .int .i64 node, .int .i64 id, .slice ao ops.length capo, .slice ad deps.length capd, .slice aa at_.length capa, .slice av vals.length capv] 50)))
  have HV := Go.Lib.hid (RInts.later Hhv.out ((Below.refl _ _).alloc (Nat.le_refl _) (.cells #[.int .i64 4, .int .i64 node, .int .i64 id, .slice ao ops.length capo, .slice ad deps.length capd, .slice aa at_.length capa, .slice av vals.length capv] 50)))
  cases hg : (ops.length == 0)
  · have z1 : ((ops.length : Int) == 0) = false := by simp at hg ⊢; omega
    have Hhg := Go.Lib.hid hg; clear hg
    go_wp2_with (first | (go_at_call 101; refine (isTxn_any _ _).mono ?_; rintro e w' ⟨rfl, rfl⟩) | (go_at_call 100; refine (isRising_any _ deps _ HD0.out).mono ?_; rintro e w' ⟨rfl, rfl⟩) | (go_at_call 83; refine (refHas_any _ deps _ _ HD0.out).mono ?_; rintro e w' ⟨rfl, rfl⟩))
    go_loop [3, 4, 88] (fun v3 last i => ∃ k : Nat, k ≤ at_.length ∧ i = .int .i64 k ∧ ∃ p : Int, last = .int .i64 p ∧ (0 < k → p = at_.getD (k - 1) 0) ∧ (k = 0 → p = -1) ∧ v3 = .bool false) (fun _ _ i => at_.length - (intOf i).toNat)
    case atStart => exact ⟨0, Nat.zero_le _, rfl, -1, rfl, by omega, by omega, rfl⟩
    case round =>
      obtain ⟨k, hk, rfl, p, rfl, hp2, hp3, rfl⟩ := hrel
      by_cases hlt : k < at_.length
      · obtain ⟨x, hx⟩ := some_at hlt
        obtain ⟨b, off, rfl, hs, hbs, h0⟩ := HA.out.at hx
        have hxl : x = at_.getD (k + 1 - 1) 0 := by simp [hx]
        clear hs hbs
        have Hhx := Go.Lib.hid hx; clear hx; have Hhxl := Go.Lib.hid hxl; clear hxl; have Hhp2 := Go.Lib.hid hp2; clear hp2; have Hhp3 := Go.Lib.hid hp3; clear hp3
        go_wp2_with fail
        go_round
        case rel => exact ⟨k + 1, by omega, by go_num, x, rfl, fun _ => Hhxl.out, by omega, rfl⟩
        case measure => simp [intOf]; omega
      · have hkl : k = at_.length := by omega
        have Hhp2 := Go.Lib.hid hp2; clear hp2; have Hhp3 := Go.Lib.hid hp3; clear hp3
        clear hkl
        go_wp2_with fail
        go_loop [3, 107] (fun v3 i => ∃ m : Nat, m ≤ vals.length ∧ i = .int .i64 m ∧ v3 = .bool false) (fun _ i => vals.length - (intOf i).toNat)
        case atStart => exact ⟨0, Nat.zero_le _, rfl, rfl⟩
        case round =>
          obtain ⟨m, hm, rfl, rfl⟩ := hrel
          by_cases hmt : m < vals.length
          · obtain ⟨z, hz⟩ := some_at hmt
            obtain ⟨b, off, rfl, hs, hbs, h0⟩ := HV.out.at hz
            clear hs hbs
            have Hhz := Go.Lib.hid hz; clear hz
            go_wp2_with fail
            go_round
            case rel => exact ⟨m + 1, by omega, by go_num, rfl⟩
            case measure => simp [intOf]; omega
          · have hml : m = vals.length := by omega
            clear hml
            go_wp2_with fail
            go_ret
            exact ⟨ret_int (HNo.out (by rw [Hhg.out]; simp)).symm, by (repeat (first | exact Below.refl _ _ | assumption | refine Below.drewN ?_ _ | refine Below.drew ?_ | refine Below.alloc ?_ (by simp <;> omega) _))⟩
  · have z1 : ((ops.length : Int) == 0) = true := by simp at hg ⊢; omega
    have Hhg := Go.Lib.hid hg; clear hg
    cases hb2 : (deps.length == 0)
    · have y1 : ((deps.length : Int) == 0) = false := by simp at hb2 ⊢; omega
      have Hhb2 := Go.Lib.hid hb2; clear hb2
      go_wp2_with (first | (go_at_call 101; refine (isTxn_any _ _).mono ?_; rintro e w' ⟨rfl, rfl⟩) | (go_at_call 100; refine (isRising_any _ deps _ HD0.out).mono ?_; rintro e w' ⟨rfl, rfl⟩) | (go_at_call 83; refine (refHas_any _ deps _ _ HD0.out).mono ?_; rintro e w' ⟨rfl, rfl⟩))
      go_loop [3, 4, 88] (fun v3 last i => ∃ k : Nat, k ≤ at_.length ∧ i = .int .i64 k ∧ ∃ p : Int, last = .int .i64 p ∧ (0 < k → p = at_.getD (k - 1) 0) ∧ (k = 0 → p = -1) ∧ v3 = .bool false) (fun _ _ i => at_.length - (intOf i).toNat)
      case atStart => exact ⟨0, Nat.zero_le _, rfl, -1, rfl, by omega, by omega, rfl⟩
      case round =>
        obtain ⟨k, hk, rfl, p, rfl, hp2, hp3, rfl⟩ := hrel
        by_cases hlt : k < at_.length
        · obtain ⟨x, hx⟩ := some_at hlt
          obtain ⟨b, off, rfl, hs, hbs, h0⟩ := HA.out.at hx
          have hxl : x = at_.getD (k + 1 - 1) 0 := by simp [hx]
          clear hs hbs
          have Hhx := Go.Lib.hid hx; clear hx; have Hhxl := Go.Lib.hid hxl; clear hxl; have Hhp2 := Go.Lib.hid hp2; clear hp2; have Hhp3 := Go.Lib.hid hp3; clear hp3
          go_wp2_with fail
          go_round
          case rel => exact ⟨k + 1, by omega, by go_num, x, rfl, fun _ => Hhxl.out, by omega, rfl⟩
          case measure => simp [intOf]; omega
        · have hkl : k = at_.length := by omega
          have Hhp2 := Go.Lib.hid hp2; clear hp2; have Hhp3 := Go.Lib.hid hp3; clear hp3
          clear hkl
          go_wp2_with fail
          go_loop [3, 107] (fun v3 i => ∃ m : Nat, m ≤ vals.length ∧ i = .int .i64 m ∧ v3 = .bool false) (fun _ i => vals.length - (intOf i).toNat)
          case atStart => exact ⟨0, Nat.zero_le _, rfl, rfl⟩
          case round =>
            obtain ⟨m, hm, rfl, rfl⟩ := hrel
            by_cases hmt : m < vals.length
            · obtain ⟨z, hz⟩ := some_at hmt
              obtain ⟨b, off, rfl, hs, hbs, h0⟩ := HV.out.at hz
              clear hs hbs
              have Hhz := Go.Lib.hid hz; clear hz
              go_wp2_with fail
              go_round
              case rel => exact ⟨m + 1, by omega, by go_num, rfl⟩
              case measure => simp [intOf]; omega
            · have hml : m = vals.length := by omega
              clear hml
              go_wp2_with fail
              go_ret
              exact ⟨ret_int (HNo.out (by rw [Hhb2.out]; simp)).symm, by (repeat (first | exact Below.refl _ _ | assumption | refine Below.drewN ?_ _ | refine Below.drew ?_ | refine Below.alloc ?_ (by simp <;> omega) _))⟩
    · have y1 : ((deps.length : Int) == 0) = true := by simp at hb2 ⊢; omega
      have Hhb2 := Go.Lib.hid hb2; clear hb2
      cases hx9 : (at_.length == 0)
      · have x1 : ((at_.length : Int) == 0) = false := by simp at hx9 ⊢; omega
        have Hhx9 := Go.Lib.hid hx9; clear hx9
        go_wp2_with (first | (go_at_call 101; refine (isTxn_any _ _).mono ?_; rintro e w' ⟨rfl, rfl⟩) | (go_at_call 100; refine (isRising_any _ deps _ HD0.out).mono ?_; rintro e w' ⟨rfl, rfl⟩) | (go_at_call 83; refine (refHas_any _ deps _ _ HD0.out).mono ?_; rintro e w' ⟨rfl, rfl⟩))
        go_loop [3, 4, 88] (fun v3 last i => ∃ k : Nat, k ≤ at_.length ∧ i = .int .i64 k ∧ ∃ p : Int, last = .int .i64 p ∧ (0 < k → p = at_.getD (k - 1) 0) ∧ (k = 0 → p = -1) ∧ v3 = .bool false) (fun _ _ i => at_.length - (intOf i).toNat)
        case atStart => exact ⟨0, Nat.zero_le _, rfl, -1, rfl, by omega, by omega, rfl⟩
        case round =>
          obtain ⟨k, hk, rfl, p, rfl, hp2, hp3, rfl⟩ := hrel
          by_cases hlt : k < at_.length
          · obtain ⟨x, hx⟩ := some_at hlt
            obtain ⟨b, off, rfl, hs, hbs, h0⟩ := HA.out.at hx
            have hxl : x = at_.getD (k + 1 - 1) 0 := by simp [hx]
            clear hs hbs
            have Hhx := Go.Lib.hid hx; clear hx; have Hhxl := Go.Lib.hid hxl; clear hxl; have Hhp2 := Go.Lib.hid hp2; clear hp2; have Hhp3 := Go.Lib.hid hp3; clear hp3
            go_wp2_with fail
            go_round
            case rel => exact ⟨k + 1, by omega, by go_num, x, rfl, fun _ => Hhxl.out, by omega, rfl⟩
            case measure => simp [intOf]; omega
          · have hkl : k = at_.length := by omega
            have Hhp2 := Go.Lib.hid hp2; clear hp2; have Hhp3 := Go.Lib.hid hp3; clear hp3
            clear hkl
            go_wp2_with fail
            go_loop [3, 107] (fun v3 i => ∃ m : Nat, m ≤ vals.length ∧ i = .int .i64 m ∧ v3 = .bool false) (fun _ i => vals.length - (intOf i).toNat)
            case atStart => exact ⟨0, Nat.zero_le _, rfl, rfl⟩
            case round =>
              obtain ⟨m, hm, rfl, rfl⟩ := hrel
              by_cases hmt : m < vals.length
              · obtain ⟨z, hz⟩ := some_at hmt
                obtain ⟨b, off, rfl, hs, hbs, h0⟩ := HV.out.at hz
                clear hs hbs
                have Hhz := Go.Lib.hid hz; clear hz
                go_wp2_with fail
                go_round
                case rel => exact ⟨m + 1, by omega, by go_num, rfl⟩
                case measure => simp [intOf]; omega
              · have hml : m = vals.length := by omega
                clear hml
                go_wp2_with fail
                go_ret
                exact ⟨ret_int (HNo.out (by rw [Hhx9.out]; simp)).symm, by (repeat (first | exact Below.refl _ _ | assumption | refine Below.drewN ?_ _ | refine Below.drew ?_ | refine Below.alloc ?_ (by simp <;> omega) _))⟩
      · have x1 : ((at_.length : Int) == 0) = true := by simp at hx9 ⊢; omega
        have Hhx9 := Go.Lib.hid hx9; clear hx9
        go_wp2_with (first | (go_at_call 101; refine (isTxn_any _ _).mono ?_; rintro e w' ⟨rfl, rfl⟩) | (go_at_call 100; refine (isRising_any _ deps _ HD0.out).mono ?_; rintro e w' ⟨rfl, rfl⟩) | (go_at_call 83; refine (refHas_any _ deps _ _ HD0.out).mono ?_; rintro e w' ⟨rfl, rfl⟩))
        go_loop [3, 4, 88] (fun v3 last i => ∃ k : Nat, k ≤ at_.length ∧ i = .int .i64 k ∧ ∃ p : Int, last = .int .i64 p ∧ (0 < k → p = at_.getD (k - 1) 0) ∧ (k = 0 → p = -1) ∧ v3 = .bool (allTo (atAt at_) k)) (fun _ _ i => at_.length - (intOf i).toNat)
        case atStart => exact ⟨0, Nat.zero_le _, rfl, -1, rfl, by omega, by omega, rfl⟩
        case round =>
          obtain ⟨k, hk, rfl, p, rfl, hp2, hp3, rfl⟩ := hrel
          by_cases hlt : k < at_.length
          · obtain ⟨x, hx⟩ := some_at hlt
            obtain ⟨b, off, rfl, hs, hbs, h0⟩ := HA.out.at hx
            have hxl : x = at_.getD (k + 1 - 1) 0 := by simp [hx]
            clear hs hbs
            cases hc : allTo (atAt at_) k
            · have hst : allTo (atAt at_) (k + 1) = false := by rw [allTo_succ, hc]; rfl
              have Hhst := Go.Lib.hid hst; clear hst; have Hhc := Go.Lib.hid hc; clear hc; have Hhx := Go.Lib.hid hx; clear hx; have Hhxl := Go.Lib.hid hxl; clear hxl; have Hhp2 := Go.Lib.hid hp2; clear hp2; have Hhp3 := Go.Lib.hid hp3; clear hp3
              go_wp2_with fail
              go_round
              case rel => exact ⟨k + 1, by omega, by go_num, x, rfl, fun _ => Hhxl.out, by omega, by rw [Hhst.out]⟩
              case measure => simp [intOf]; omega
            · have hst := atAt_step hx hp2 hp3 hc
              have Hhst := Go.Lib.hid hst; clear hst; have Hhc := Go.Lib.hid hc; clear hc; have Hhx := Go.Lib.hid hx; clear hx; have Hhxl := Go.Lib.hid hxl; clear hxl; have Hhp2 := Go.Lib.hid hp2; clear hp2; have Hhp3 := Go.Lib.hid hp3; clear hp3
              by_cases c1 : p < x
              · by_cases c2 : x < 4
                · go_wp2_with fail
                  go_round
                  case rel => exact ⟨k + 1, by omega, by go_num, x, rfl, fun _ => Hhxl.out, by omega, by rw [Hhst.out]; simp [c1, c2]⟩
                  case measure => simp [intOf]; omega
                · go_wp2_with fail
                  go_round
                  case rel => exact ⟨k + 1, by omega, by go_num, x, rfl, fun _ => Hhxl.out, by omega, by rw [Hhst.out]; simp [c1, c2]⟩
                  case measure => simp [intOf]; omega
              · go_wp2_with fail
                go_round
                case rel => exact ⟨k + 1, by omega, by go_num, x, rfl, fun _ => Hhxl.out, by omega, by rw [Hhst.out]; simp [c1]⟩
                case measure => simp [intOf]; omega
          · have hkl : k = at_.length := by omega
            have Hhp2 := Go.Lib.hid hp2; clear hp2; have Hhp3 := Go.Lib.hid hp3; clear hp3
            have ha9 : allTo (atAt at_) k = allTo (atAt at_) at_.length := by rw [hkl]
            rw [ha9]
            clear hkl ha9
            generalize hA : allTo (atAt at_) at_.length = A at *
            have HhA := Go.Lib.hid hA; clear hA
            go_wp2_with fail
            go_loop [3, 107] (fun v3 i => ∃ m : Nat, m ≤ vals.length ∧ i = .int .i64 m ∧ v3 = .bool (A && allTo (valAt vals) m)) (fun _ i => vals.length - (intOf i).toNat)
            case atStart => exact ⟨0, Nat.zero_le _, rfl, by simp [allTo]⟩
            case round =>
              obtain ⟨m, hm, rfl, rfl⟩ := hrel
              by_cases hmt : m < vals.length
              · obtain ⟨z, hz⟩ := some_at hmt
                obtain ⟨b, off, rfl, hs, hbs, h0⟩ := HV.out.at hz
                clear hs hbs
                cases hc : (A && allTo (valAt vals) m)
                · have hst : (A && allTo (valAt vals) (m + 1)) = false := by rw [allTo_succ, ← Bool.and_assoc, hc]; rfl
                  have Hhst := Go.Lib.hid hst; clear hst; have Hhc := Go.Lib.hid hc; clear hc; have Hhz := Go.Lib.hid hz; clear hz
                  go_wp2_with fail
                  go_round
                  case rel => exact ⟨m + 1, by omega, by go_num, by rw [Hhst.out]⟩
                  case measure => simp [intOf]; omega
                · have hA1 : A = true := by revert hc; cases A <;> simp
                  have hst : (A && allTo (valAt vals) (m + 1)) = (clampZ z == z) := by rw [valAt_step hz (by revert hc; cases A <;> simp), hA1]; rfl
                  cases c1 : (clampZ z == z)
                  · have Hhst := Go.Lib.hid hst; clear hst; have Hhc := Go.Lib.hid hc; clear hc; have Hhz := Go.Lib.hid hz; clear hz; have HhA1 := Go.Lib.hid hA1; clear hA1
                    go_wp2_with (go_at_call 109; refine (bound_any _ _).mono ?_; rintro e w' ⟨rfl, rfl⟩)
                    go_round
                    case rel => exact ⟨m + 1, by omega, by go_num, by rw [Hhst.out, c1]⟩
                    case measure => simp [intOf]; omega
                  · have Hhst := Go.Lib.hid hst; clear hst; have Hhc := Go.Lib.hid hc; clear hc; have Hhz := Go.Lib.hid hz; clear hz; have HhA1 := Go.Lib.hid hA1; clear hA1
                    go_wp2_with (go_at_call 109; refine (bound_any _ _).mono ?_; rintro e w' ⟨rfl, rfl⟩)
                    go_round
                    case rel => exact ⟨m + 1, by omega, by go_num, by rw [Hhst.out, c1]⟩
                    case measure => simp [intOf]; omega
              · have hml : m = vals.length := by omega
                have hv9 : allTo (valAt vals) m = allTo (valAt vals) vals.length := by rw [hml]
                rw [hv9]
                clear hml hv9
                generalize hV : allTo (valAt vals) vals.length = V at *
                have HhV := Go.Lib.hid hV; clear hV
                cases hl : (at_.length == vals.length)
                · have l1 : ((at_.length : Int) != (vals.length : Int)) = true := by simp at hl ⊢; omega
                  have Hhl := Go.Lib.hid hl; clear hl
                  cases A <;> cases V
                  all_goals
                    go_wp2_with fail
                    go_ret
                    exact ⟨ret_int (HNo.out (by rw [Hhl.out]; simp)).symm, by (repeat (first | exact Below.refl _ _ | assumption | refine Below.drewN ?_ _ | refine Below.drew ?_ | refine Below.alloc ?_ (by simp <;> omega) _))⟩
                · have l1 : ((at_.length : Int) != (vals.length : Int)) = false := by simp at hl ⊢; omega
                  have Hhl := Go.Lib.hid hl; clear hl
                  cases A <;> cases V
                  · go_wp2_with fail
                    go_ret
                    exact ⟨ret_int (HNo.out (by simp)).symm, by (repeat (first | exact Below.refl _ _ | assumption | refine Below.drewN ?_ _ | refine Below.drew ?_ | refine Below.alloc ?_ (by simp <;> omega) _))⟩
                  · go_wp2_with fail
                    go_ret
                    exact ⟨ret_int (HNo.out (by simp)).symm, by (repeat (first | exact Below.refl _ _ | assumption | refine Below.drewN ?_ _ | refine Below.drew ?_ | refine Below.alloc ?_ (by simp <;> omega) _))⟩
                  · go_wp2_with fail
                    go_ret
                    exact ⟨ret_int (HNo.out (by simp)).symm, by (repeat (first | exact Below.refl _ _ | assumption | refine Below.drewN ?_ _ | refine Below.drew ?_ | refine Below.alloc ?_ (by simp <;> omega) _))⟩
                  · go_wp2_with fail
                    go_ret
                    exact ⟨ret_int (HYes.out (by rw [Hhg.out, Hhb2.out, Hhx9.out, Hhl.out]; rfl)).symm, by (repeat (first | exact Below.refl _ _ | assumption | refine Below.drewN ?_ _ | refine Below.drew ?_ | refine Below.alloc ?_ (by simp <;> omega) _))⟩

end Go.Proofs.Ytnfdgjdnlikepab
