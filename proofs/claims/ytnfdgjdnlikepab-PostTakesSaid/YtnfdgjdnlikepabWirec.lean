/- What the check of a frame computes: wire.Good of frames of the kind Done, and the whole. (Written by gen_wire.py.) -/
import Derived.Test.YtnfdgjdnlikepabWireb
namespace Go.Proofs.Ytnfdgjdnlikepab
open Go.RowKit

set_option maxRecDepth 100000 in
set_option maxHeartbeats 4000000 in
theorem good_5 {S : Nat → Prop} (node id : Int) (ops : List GOp) (deps at_ vals : List Int) (vo vd va vv : Value) (w : World) (n1 : 0 ≤ node) (n2 : node < 6) (n3 : 0 ≤ id) (n4 : id < 32)
    (ho : ROps S w vo ops) (hd : RInts S w vd deps) (ha : RInts S w va at_) (hv : RInts S w vv vals) :
    Calls Try.prog 32 #[.agg #[.int .i64 5, .int .i64 node, .int .i64 id, vo, vd, va, vv]] w fun e w' => e = .returned (.int .i64 (frameZ ⟨5, node, id, ops, deps, at_, vals⟩)) ∧ Below w.heap.size w w' := by
  obtain ⟨ao, capo, rfl, hmo⟩ := ho.shape
  obtain ⟨ad, capd, rfl, hmd⟩ := hd.shape
  obtain ⟨aa, capa, rfl, hma⟩ := ha.shape
  obtain ⟨av, capv, rfl, hmv⟩ := hv.shape
  have hk : ¬ ((⟨5, node, id, ops, deps, at_, vals⟩ : GFrame).kind < 1 ∨ 5 < (⟨5, node, id, ops, deps, at_, vals⟩ : GFrame).kind) := by show ¬ ((5 : Int) < 1 ∨ 5 < (5 : Int)); omega
  have hr : ¬ ((⟨5, node, id, ops, deps, at_, vals⟩ : GFrame).node < 0 ∨ 6 ≤ (⟨5, node, id, ops, deps, at_, vals⟩ : GFrame).node ∨ (⟨5, node, id, ops, deps, at_, vals⟩ : GFrame).id < 0 ∨ 32 ≤ (⟨5, node, id, ops, deps, at_, vals⟩ : GFrame).id) := by show ¬ (node < 0 ∨ 6 ≤ node ∨ id < 0 ∨ 32 ≤ id); omega
  have HNo := Go.Lib.hid (frameZ_form hk hr)
  have HYes := Go.Lib.hid (frameZ_ok hk hr)
  clear hk hr
  have ho1 : opsPart ⟨5, node, id, ops, deps, at_, vals⟩ = (ops.length == 0) := by unfold opsPart; simp
  have hd1 : depsPart ⟨5, node, id, ops, deps, at_, vals⟩ = (deps.length == 0) := by unfold depsPart; simp
  have ha1 : atPart ⟨5, node, id, ops, deps, at_, vals⟩ = ((true) && (at_.length == vals.length && (allTo (atAt at_) at_.length && allTo (valAt vals) vals.length))) := by unfold atPart; simp
  rw [ho1, hd1, ha1] at HNo HYes
  clear ho1 hd1 ha1
  have Hho := Go.Lib.hid ho; clear ho; have Hhd := Go.Lib.hid hd; clear hd; have Hha := Go.Lib.hid ha; clear ha; have Hhv := Go.Lib.hid hv; clear hv
  have HD0 := Go.Lib.hid (RInts.later Hhd.out ((Below.refl _ _).alloc (Nat.le_refl _) (.cells #[.int .i64 5, .int .i64 node, .int .i64 id, .slice ao ops.length capo, .slice ad deps.length capd, .slice aa at_.length capa, .slice av vals.length capv] 50)))
  by_cases z : ops.length = 0
  · have z1 : ¬ 0 < ops.length := by omega
    have hb : (ops.length == 0) = true := by simpa using z
    have Hhb := Go.Lib.hid hb; clear hb; have Hz := Go.Lib.hid z; clear z
    by_cases y : deps.length = 0
    · have hb2 : (deps.length == 0) = true := by simpa using y
      have y1 : ¬ 0 < deps.length := by omega
      have hr : risingZ deps = true := by obtain rfl := List.eq_nil_of_length_eq_zero y; rfl
      have hi : hasZ deps id = false := by obtain rfl := List.eq_nil_of_length_eq_zero y; rfl
      have Hhb2 := Go.Lib.hid hb2; clear hb2; have Hy := Go.Lib.hid y; clear y
      by_cases l : at_.length = vals.length
      · have l1 : ((at_.length : Int) != (vals.length : Int)) = false := by simp [l]
        have hb4 : (at_.length == vals.length) = true := by simpa using l
        have Hhb4 := Go.Lib.hid hb4; clear hb4; have Hl := Go.Lib.hid l; clear l
        go_enter Try.func32, Try.ntmps32
        go_wp2_with (first | (go_at_call 75; refine (rising_any _ deps _ HD0.out).mono ?_; rintro e w' ⟨rfl, rfl⟩) | (go_at_call 76; refine (contains_any _ deps _ _ HD0.out).mono ?_; rintro e w' ⟨rfl, rfl⟩))
        go_loop [110] (fun i => ∃ k : Nat, k ≤ at_.length ∧ i = .int .i64 k ∧ allTo (atAt at_) k = true ∧ allTo (valAt vals) k = true) (fun i => at_.length - (intOf i).toNat)
        case atStart => exact ⟨0, Nat.zero_le _, rfl, rfl, rfl⟩
        case round =>
          obtain ⟨k, hk, rfl, hta, htv⟩ := hrel
          by_cases hlt : k < at_.length
          · obtain ⟨x, hx⟩ := some_at hlt
            obtain ⟨y, hy⟩ := some_at (show k - 1 < at_.length by omega)
            obtain ⟨z, hz⟩ := some_at (show k < vals.length by have := Hl.out; omega)
            have hlv : k < vals.length := by have := Hl.out; omega
            obtain ⟨b, off, rfl, hs, hbs, h0⟩ := (RInts.later Hha.out ((Below.refl _ _).alloc (Nat.le_refl _) (.cells #[.int .i64 5, .int .i64 node, .int .i64 id, .slice ao ops.length capo, .slice ad deps.length capd, .slice aa at_.length capa, .slice av vals.length capv] 50))).at hx
            obtain ⟨b1, off1, hab, hs1, hbs1, h1⟩ := (RInts.later Hha.out ((Below.refl _ _).alloc (Nat.le_refl _) (.cells #[.int .i64 5, .int .i64 node, .int .i64 id, .slice ao ops.length capo, .slice ad deps.length capd, .slice (some ⟨b, off, none⟩) at_.length capa, .slice av vals.length capv] 50))).at hy
            simp only [Option.some.injEq, Addr.mk.injEq] at hab
            obtain ⟨rfl, rfl, _⟩ := hab
            obtain ⟨b2, off2, rfl, hs2, hbs2, h2⟩ := (RInts.later Hhv.out ((Below.refl _ _).alloc (Nat.le_refl _) (.cells #[.int .i64 5, .int .i64 node, .int .i64 id, .slice ao ops.length capo, .slice ad deps.length capd, .slice (some ⟨b, off, none⟩) at_.length capa, .slice av vals.length capv] 50))).at hz
            have hno : (allTo (atAt at_) at_.length = false ∨ allTo (valAt vals) vals.length = false) → frameZ ⟨5, node, id, ops, deps, at_, vals⟩ = 1 := fun h => HNo.out (by rcases h with h | h <;> rw [h] <;> simp)
            have hnoA : (x < 0 ∨ 4 ≤ x ∨ (0 < k ∧ x ≤ y)) → frameZ ⟨5, node, id, ops, deps, at_, vals⟩ = 1 := fun h => hno (.inl (allTo_no (f := atAt at_) (k := k) (by unfold atAt; rw [getD_of hx, getD_of hy]; rcases h with h | h | ⟨h, h'⟩ <;> simp <;> omega) hlt))
            have hnoV : (z < -1099511627776 ∨ 1099511627776 < z) → frameZ ⟨5, node, id, ops, deps, at_, vals⟩ = 1 := fun h => hno (.inr (allTo_no (f := valAt vals) (k := k) (by unfold valAt; rw [getD_of hz]; rcases h with h | h <;> simp <;> omega) hlv))
            have hyesA : 0 ≤ x → x < 4 → (k = 0 ∨ y < x) → allTo (atAt at_) (k + 1) = true := fun h1 h2 h3 => by rw [allTo_succ, hta]; unfold atAt; rw [getD_of hx, getD_of hy]; rcases h3 with h3 | h3 <;> simp [h1, h2, h3]
            have hyesV : -1099511627776 ≤ z → z ≤ 1099511627776 → allTo (valAt vals) (k + 1) = true := fun h1 h2 => by rw [allTo_succ, htv]; unfold valAt; rw [getD_of hz]; simp [h1, h2]
            have HhnoA := Go.Lib.hid hnoA; clear hnoA; have HhnoV := Go.Lib.hid hnoV; clear hnoV; have HhyesA := Go.Lib.hid hyesA; clear hyesA; have HhyesV := Go.Lib.hid hyesV; clear hyesV; have Hhta := Go.Lib.hid hta; clear hta; have Hhtv := Go.Lib.hid htv; clear htv; have Hhx := Go.Lib.hid hx; clear hx; have Hhy := Go.Lib.hid hy; clear hy; have Hhz := Go.Lib.hid hz; clear hz
            clear hno HNo HYes hs hbs hs1 hbs1 hs2 hbs2
            by_cases hk0 : k = 0
            · subst hk0
              rw [Nat.add_zero] at h0 h2
              have kz : ¬ 0 < ((0 : Nat) : Int) := by omega
              by_cases c1 : x < 0
              · go_wp2_with fail
                go_ret
                exact ⟨ret_int (HhnoA.out (.inl c1)).symm, by (repeat (first | exact Below.refl _ _ | assumption | refine Below.drewN ?_ _ | refine Below.drew ?_ | refine Below.alloc ?_ (by simp <;> omega) _))⟩
              · by_cases c2 : 4 ≤ x
                · go_wp2_with fail
                  go_ret
                  exact ⟨ret_int (HhnoA.out (.inr (.inl c2))).symm, by (repeat (first | exact Below.refl _ _ | assumption | refine Below.drewN ?_ _ | refine Below.drew ?_ | refine Below.alloc ?_ (by simp <;> omega) _))⟩
                · have c5 : 0 ≤ x := by omega
                  by_cases c3 : z < -1099511627776
                  · go_wp2_with fail
                    go_ret
                    exact ⟨ret_int (HhnoV.out (.inl c3)).symm, by (repeat (first | exact Below.refl _ _ | assumption | refine Below.drewN ?_ _ | refine Below.drew ?_ | refine Below.alloc ?_ (by simp <;> omega) _))⟩
                  · by_cases c4 : 1099511627776 < z
                    · go_wp2_with fail
                      go_ret
                      exact ⟨ret_int (HhnoV.out (.inr c4)).symm, by (repeat (first | exact Below.refl _ _ | assumption | refine Below.drewN ?_ _ | refine Below.drew ?_ | refine Below.alloc ?_ (by simp <;> omega) _))⟩
                    · go_wp2_with fail
                      go_round
                      case rel => exact ⟨0 + 1, by omega, by go_num, HhyesA.out (by omega) (by omega) (by omega), HhyesV.out (by omega) (by omega)⟩
                      case measure => simp [intOf]; omega
            · have kz : (0 : Int) < (k : Int) := by omega
              by_cases c1 : x < 0
              · go_wp2_with fail
                go_ret
                exact ⟨ret_int (HhnoA.out (.inl c1)).symm, by (repeat (first | exact Below.refl _ _ | assumption | refine Below.drewN ?_ _ | refine Below.drew ?_ | refine Below.alloc ?_ (by simp <;> omega) _))⟩
              · by_cases c2 : 4 ≤ x
                · go_wp2_with fail
                  go_ret
                  exact ⟨ret_int (HhnoA.out (.inr (.inl c2))).symm, by (repeat (first | exact Below.refl _ _ | assumption | refine Below.drewN ?_ _ | refine Below.drew ?_ | refine Below.alloc ?_ (by simp <;> omega) _))⟩
                · by_cases c5 : x ≤ y
                  · go_wp2_with fail
                    go_ret
                    exact ⟨ret_int (HhnoA.out (.inr (.inr ⟨by omega, c5⟩))).symm, by (repeat (first | exact Below.refl _ _ | assumption | refine Below.drewN ?_ _ | refine Below.drew ?_ | refine Below.alloc ?_ (by simp <;> omega) _))⟩
                  · have c6 : y < x := by omega
                    by_cases c3 : z < -1099511627776
                    · go_wp2_with fail
                      go_ret
                      exact ⟨ret_int (HhnoV.out (.inl c3)).symm, by (repeat (first | exact Below.refl _ _ | assumption | refine Below.drewN ?_ _ | refine Below.drew ?_ | refine Below.alloc ?_ (by simp <;> omega) _))⟩
                    · by_cases c4 : 1099511627776 < z
                      · go_wp2_with fail
                        go_ret
                        exact ⟨ret_int (HhnoV.out (.inr c4)).symm, by (repeat (first | exact Below.refl _ _ | assumption | refine Below.drewN ?_ _ | refine Below.drew ?_ | refine Below.alloc ?_ (by simp <;> omega) _))⟩
                      · go_wp2_with fail
                        go_round
                        case rel => exact ⟨k + 1, by omega, by go_num, HhyesA.out (by omega) (by omega) (by omega), HhyesV.out (by omega) (by omega)⟩
                        case measure => simp [intOf]; omega
          · have hkl : k = at_.length := by omega
            have hta2 : allTo (atAt at_) at_.length = true := by rw [← hkl]; exact hta
            have htv2 : allTo (valAt vals) vals.length = true := by rw [← Hl.out, ← hkl]; exact htv
            have Hhta2 := Go.Lib.hid hta2; clear hta2; have Hhtv2 := Go.Lib.hid htv2; clear htv2
            clear hta htv hkl
            go_wp2_with fail
            go_ret
            exact ⟨ret_int (HYes.out (by rw [Hhb.out, Hhb2.out, Hhb4.out, Hhta2.out, Hhtv2.out]; rfl)).symm, by (repeat (first | exact Below.refl _ _ | assumption | refine Below.drewN ?_ _ | refine Below.drew ?_ | refine Below.alloc ?_ (by simp <;> omega) _))⟩
      · have l1 : ((at_.length : Int) != (vals.length : Int)) = true := by simp; omega
        have hb4 : (at_.length == vals.length) = false := by simpa using l
        have Hhb4 := Go.Lib.hid hb4; clear hb4; have Hl := Go.Lib.hid l; clear l
        go_enter Try.func32, Try.ntmps32
        go_wp2_with (first | (go_at_call 75; refine (rising_any _ deps _ HD0.out).mono ?_; rintro e w' ⟨rfl, rfl⟩) | (go_at_call 76; refine (contains_any _ deps _ _ HD0.out).mono ?_; rintro e w' ⟨rfl, rfl⟩))
        go_ret
        exact ⟨ret_int (HNo.out (by rw [Hhb4.out]; simp)).symm, by (repeat (first | exact Below.refl _ _ | assumption | refine Below.drewN ?_ _ | refine Below.drew ?_ | refine Below.alloc ?_ (by simp <;> omega) _))⟩
    · have hb2 : (deps.length == 0) = false := by simpa using y
      have y1 : 0 < deps.length := by omega
      have Hhb2 := Go.Lib.hid hb2; clear hb2; have Hy := Go.Lib.hid y; clear y
      go_enter Try.func32, Try.ntmps32
      go_wp2_with (first | (go_at_call 75; refine (rising_any _ deps _ HD0.out).mono ?_; rintro e w' ⟨rfl, rfl⟩) | (go_at_call 76; refine (contains_any _ deps _ _ HD0.out).mono ?_; rintro e w' ⟨rfl, rfl⟩))
      go_ret
      exact ⟨ret_int (HNo.out (by rw [Hhb2.out]; simp)).symm, by (repeat (first | exact Below.refl _ _ | assumption | refine Below.drewN ?_ _ | refine Below.drew ?_ | refine Below.alloc ?_ (by simp <;> omega) _))⟩
  · have z1 : 0 < ops.length := by omega
    have hb : (ops.length == 0) = false := by simpa using z
    have Hhb := Go.Lib.hid hb; clear hb; have Hz := Go.Lib.hid z; clear z
    go_enter Try.func32, Try.ntmps32
    go_wp2_with (first | (go_at_call 75; refine (rising_any _ deps _ HD0.out).mono ?_; rintro e w' ⟨rfl, rfl⟩) | (go_at_call 76; refine (contains_any _ deps _ _ HD0.out).mono ?_; rintro e w' ⟨rfl, rfl⟩))
    go_ret
    exact ⟨ret_int (HNo.out (by rw [Hhb.out]; rfl)).symm, by (repeat (first | exact Below.refl _ _ | assumption | refine Below.drewN ?_ _ | refine Below.drew ?_ | refine Below.alloc ?_ (by simp <;> omega) _))⟩

theorem good_any {S : Nat → Prop} (cs : Array Value) (f : GFrame) (w : World) (hf : RFrame S w cs f) :
    Calls Try.prog 32 #[.agg cs] w fun e w' => e = .returned (.int .i64 (frameZ f)) ∧ Below w.heap.size w w' := by
  by_cases h : f.kind < 1 ∨ 5 < f.kind ∨ f.node < 0 ∨ 6 ≤ f.node ∨ f.id < 0 ∨ 32 ≤ f.id
  · exact good_range cs f w hf h
  · obtain ⟨vo, vd, va, vv, rfl, ho, hd, ha, hv⟩ := hf
    obtain ⟨kind, node, id, ops, deps, at_, vals⟩ := f
    simp only at h ho hd ha hv
    have hk : kind = 1 ∨ kind = 2 ∨ kind = 3 ∨ kind = 4 ∨ kind = 5 := by omega
    rcases hk with rfl | rfl | rfl | rfl | rfl
    · exact good_1 node id ops deps at_ vals vo vd va vv w (by omega) (by omega) (by omega) (by omega) ho hd ha hv
    · exact good_2 node id ops deps at_ vals vo vd va vv w (by omega) (by omega) (by omega) (by omega) ho hd ha hv
    · exact good_3 node id ops deps at_ vals vo vd va vv w (by omega) (by omega) (by omega) (by omega) ho hd ha hv
    · exact good_4 node id ops deps at_ vals vo vd va vv w (by omega) (by omega) (by omega) (by omega) ho hd ha hv
    · exact good_5 node id ops deps at_ vals vo vd va vv w (by omega) (by omega) (by omega) (by omega) ho hd ha hv


end Go.Proofs.Ytnfdgjdnlikepab