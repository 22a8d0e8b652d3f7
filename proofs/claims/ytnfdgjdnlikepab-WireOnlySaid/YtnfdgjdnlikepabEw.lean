/- What functions compute, and that they do. (Written by dc.py.) -/
import Derived.Test.YtnfdgjdnlikepabEk
import Derived.Test.YtnfdgjdnlikepabEr
namespace Go.Proofs.Ytnfdgjdnlikepab
open Go.RowKit
open Rep (rep)
set_option linter.unusedVariables false

def keepSameFrame_j1 (c10 : Bool) : Option Bool :=
    some c10

def keepSameFrameD (fu : Nat) (x1 : GFrame) (x2 : GFrame) : Option Bool :=
    (bif x1.kind == x2.kind then
    (bif x1.node == x2.node then
    (bif x1.id == x2.id then
    (keepSameOpsD fu x1.ops x2.ops).bind fun r20 =>
    (bif r20 then
    (keepSameNumbersD fu x1.deps x2.deps).bind fun r26 =>
    (bif r26 then
    (keepSameNumbersD fu x1.at_ x2.at_).bind fun r32 =>
    (bif r32 then
    (keepSameNumbersD fu x1.vals x2.vals).bind fun r38 =>
    keepSameFrame_j1 r38
    else
    keepSameFrame_j1 false)
    else
    keepSameFrame_j1 false)
    else
    keepSameFrame_j1 false)
    else
    keepSameFrame_j1 false)
    else
    keepSameFrame_j1 false)
    else
    keepSameFrame_j1 false)

set_option maxRecDepth 100000 in
set_option maxHeartbeats 4000000 in
theorem keepSameFrame_ok {M : Mm} {w : World} {cx1 : List Value} {cx2 : List Value} {x1 : GFrame} {x2 : GFrame} {fu : Nat} {r : Bool} (hA : Agree M w) (hcx1 : rep M cx1 x1) (hcx2 : rep M cx2 x2) (hz : keepSameFrameD fu x1 x2 = some r) :
    Calls Try.prog 34 #[.agg cx1.toArray, .agg cx2.toArray] w (GivesV w (.bool r)) := by
  refine calls_W Try.func34 rfl 52 rfl rfl (by kernel_rfl) fun T hT => ?_
  have hT_0 : T 0 = .agg cx1.toArray := hT 0
  have hT_1 : T 1 = .agg cx2.toArray := hT 1
  clear hT
  have hE := Mm.ext.refl w.heap.size noX M
  have hS : St w noX M [] w := St.start hA
  rw [keepSameFrameD] at hz
  refine W_seq ?_
  refine W_reg ?_
  refine WL_c (O_box (v := .agg cx1.toArray) (cs := cx1) hT_0 rfl hS ?_)
  intro b4 w3 hb4 hS
  replace hS : St w noX M [.box b4 cx1 50] w3 := hS
  refine WL_c (O_box (v := .agg cx2.toArray) (cs := cx2) hT_1 rfl hS ?_)
  intro b6 w5 hb6 hS
  replace hS : St w noX M [.box b6 cx2 50, .box b4 cx1 50] w5 := hS
  refine WL_y (Y_assign (.bool false) rfl) ?_
  refine WL_nil (nm_then ?_)
  refine W_seqJ (fun T' w' => ∃ M8 c10, Mm.ext w.heap.size noX M M8 ∧ St w noX M8 [.box b6 cx2 50, .box b4 cx1 50] w' ∧ T' 4 = .bool c10 ∧ keepSameFrame_j1 c10 = some r) ?_ ?_
  · have hF12 := Mm.ext.refl w.heap.size noX M
    refine W_reg ?_
    refine WL_y (Y_fa fa50_0 rfl) ?_
    refine WL_y (Y_ld1 (.int .i64 x1.kind) ts3 rfl (hS.bvB 1 rfl) (GFrame.p0 (rep_root (k := 7) rfl hcx1))) ?_
    refine WL_y (Y_fa fa50_0 rfl) ?_
    refine WL_y (Y_ld1 (.int .i64 x2.kind) ts3 rfl (hS.bvB 0 rfl) (GFrame.p0 (rep_root (k := 7) rfl hcx2))) ?_
    refine WL_y (Y_eql rfl rfl) ?_
    refine WL_y (Y_move (.bool (x1.kind == x2.kind)) rfl) ?_
    rcases Bool.eq_false_or_eq_true (x1.kind == x2.kind) with hc13 | hc13
    · replace hz := bif_ok_t hz hc13
      refine WL_gy rfl (bt hc13 rfl) (Y_fa fa50_1 rfl) ?_
      refine WL_gy rfl (bt hc13 rfl) (Y_ld1 (.int .i64 x1.node) ts3 rfl (hS.bvB 1 rfl) (GFrame.p1 (rep_root (k := 7) rfl hcx1))) ?_
      refine WL_gy rfl (bt hc13 rfl) (Y_fa fa50_1 rfl) ?_
      refine WL_gy rfl (bt hc13 rfl) (Y_ld1 (.int .i64 x2.node) ts3 rfl (hS.bvB 0 rfl) (GFrame.p1 (rep_root (k := 7) rfl hcx2))) ?_
      refine WL_gy rfl (bt hc13 rfl) (Y_eql rfl rfl) ?_
      refine WL_y (Y_pick_t (.bool (x1.node == x2.node)) (bt hc13 rfl) rfl) ?_
      refine WL_y (Y_move (.bool (x1.node == x2.node)) rfl) ?_
      rcases Bool.eq_false_or_eq_true (x1.node == x2.node) with hc14 | hc14
      · replace hz := bif_ok_t hz hc14
        refine WL_gy rfl (bt hc14 rfl) (Y_fa fa50_2 rfl) ?_
        refine WL_gy rfl (bt hc14 rfl) (Y_ld1 (.int .i64 x1.id) ts3 rfl (hS.bvB 1 rfl) (GFrame.p2 (rep_root (k := 7) rfl hcx1))) ?_
        refine WL_gy rfl (bt hc14 rfl) (Y_fa fa50_2 rfl) ?_
        refine WL_gy rfl (bt hc14 rfl) (Y_ld1 (.int .i64 x2.id) ts3 rfl (hS.bvB 0 rfl) (GFrame.p2 (rep_root (k := 7) rfl hcx2))) ?_
        refine WL_gy rfl (bt hc14 rfl) (Y_eql rfl rfl) ?_
        refine WL_y (Y_pick_t (.bool (x1.id == x2.id)) (bt hc14 rfl) rfl) ?_
        refine WL_y (Y_move (.bool (x1.id == x2.id)) rfl) ?_
        rcases Bool.eq_false_or_eq_true (x1.id == x2.id) with hc15 | hc15
        · replace hz := bif_ok_t hz hc15
          refine WL_gy rfl (bt hc15 rfl) (Y_fa fa50_3 rfl) ?_
          obtain ⟨v16, ev16, hv16⟩ := (GFrame.p3 (rep_root (k := 7) rfl hcx1))
          refine WL_gy rfl (bt hc15 rfl) (Y_ld1 v16 ts40 rfl (hS.bvB 1 rfl) ev16) ?_
          refine WL_gy rfl (bt hc15 rfl) (Y_fa fa50_3 rfl) ?_
          obtain ⟨v17, ev17, hv17⟩ := (GFrame.p3 (rep_root (k := 7) rfl hcx2))
          refine WL_gy rfl (bt hc15 rfl) (Y_ld1 v17 ts40 rfl (hS.bvB 0 rfl) ev17) ?_
          obtain ⟨r20, hr19, hz⟩ := bind_ok hz
          refine WL_g rfl (bt hc15 rfl) (O_val (vs := [v16, v17]) (v := .bool r20) cb77 (args2 rfl rfl) hS (keepSameOps_ok hS.agree hv16 hv17 hr19) ?_)
          intro w18 hS
          refine WL_y (Y_pick_t (.bool r20) (bt hc15 rfl) rfl) ?_
          refine WL_y (Y_move (.bool r20) rfl) ?_
          rcases Bool.eq_false_or_eq_true r20 with hc21 | hc21
          · replace hz := bif_ok_t hz hc21
            refine WL_gy rfl (bt hc21 rfl) (Y_fa fa50_4 rfl) ?_
            obtain ⟨v22, ev22, hv22⟩ := (GFrame.p4 (rep_root (k := 7) rfl hcx1))
            refine WL_gy rfl (bt hc21 rfl) (Y_ld1 v22 ts23 rfl (hS.bvB 1 rfl) ev22) ?_
            refine WL_gy rfl (bt hc21 rfl) (Y_fa fa50_4 rfl) ?_
            obtain ⟨v23, ev23, hv23⟩ := (GFrame.p4 (rep_root (k := 7) rfl hcx2))
            refine WL_gy rfl (bt hc21 rfl) (Y_ld1 v23 ts23 rfl (hS.bvB 0 rfl) ev23) ?_
            obtain ⟨r26, hr25, hz⟩ := bind_ok hz
            refine WL_g rfl (bt hc21 rfl) (O_val (vs := [v22, v23]) (v := .bool r26) cb20 (args2 rfl rfl) hS (keepSameNumbers_ok hS.agree hv22 hv23 hr25) ?_)
            intro w24 hS
            refine WL_y (Y_pick_t (.bool r26) (bt hc21 rfl) rfl) ?_
            refine WL_y (Y_move (.bool r26) rfl) ?_
            rcases Bool.eq_false_or_eq_true r26 with hc27 | hc27
            · replace hz := bif_ok_t hz hc27
              refine WL_gy rfl (bt hc27 rfl) (Y_fa fa50_5 rfl) ?_
              obtain ⟨v28, ev28, hv28⟩ := (GFrame.p5 (rep_root (k := 7) rfl hcx1))
              refine WL_gy rfl (bt hc27 rfl) (Y_ld1 v28 ts23 rfl (hS.bvB 1 rfl) ev28) ?_
              refine WL_gy rfl (bt hc27 rfl) (Y_fa fa50_5 rfl) ?_
              obtain ⟨v29, ev29, hv29⟩ := (GFrame.p5 (rep_root (k := 7) rfl hcx2))
              refine WL_gy rfl (bt hc27 rfl) (Y_ld1 v29 ts23 rfl (hS.bvB 0 rfl) ev29) ?_
              obtain ⟨r32, hr31, hz⟩ := bind_ok hz
              refine WL_g rfl (bt hc27 rfl) (O_val (vs := [v28, v29]) (v := .bool r32) cb20 (args2 rfl rfl) hS (keepSameNumbers_ok hS.agree hv28 hv29 hr31) ?_)
              intro w30 hS
              refine WL_y (Y_pick_t (.bool r32) (bt hc27 rfl) rfl) ?_
              refine WL_y (Y_move (.bool r32) rfl) ?_
              rcases Bool.eq_false_or_eq_true r32 with hc33 | hc33
              · replace hz := bif_ok_t hz hc33
                refine WL_gy rfl (bt hc33 rfl) (Y_fa fa50_6 rfl) ?_
                obtain ⟨v34, ev34, hv34⟩ := (GFrame.p6 (rep_root (k := 7) rfl hcx1))
                refine WL_gy rfl (bt hc33 rfl) (Y_ld1 v34 ts23 rfl (hS.bvB 1 rfl) ev34) ?_
                refine WL_gy rfl (bt hc33 rfl) (Y_fa fa50_6 rfl) ?_
                obtain ⟨v35, ev35, hv35⟩ := (GFrame.p6 (rep_root (k := 7) rfl hcx2))
                refine WL_gy rfl (bt hc33 rfl) (Y_ld1 v35 ts23 rfl (hS.bvB 0 rfl) ev35) ?_
                obtain ⟨r38, hr37, hz⟩ := bind_ok hz
                refine WL_g rfl (bt hc33 rfl) (O_val (vs := [v34, v35]) (v := .bool r38) cb20 (args2 rfl rfl) hS (keepSameNumbers_ok hS.agree hv34 hv35 hr37) ?_)
                intro w36 hS
                refine WL_y (Y_pick_t (.bool r38) (bt hc33 rfl) rfl) ?_
                refine WL_y (Y_assign (.bool r38) rfl) ?_
                refine WL_nil (nm_then ?_)
                exact ⟨M, r38, hF12, hS, rfl, hz⟩
              · replace hz := bif_ok_f hz hc33
                refine WL_s (j := 40) rfl (bf hc33 rfl) rfl ?_
                refine WL_s (j := 40) rfl (bf hc33 rfl) rfl ?_
                refine WL_s (j := 40) rfl (bf hc33 rfl) rfl ?_
                refine WL_s (j := 40) rfl (bf hc33 rfl) rfl ?_
                refine WL_s (j := 40) rfl (bf hc33 rfl) rfl ?_
                refine WL_y (Y_pick_f (.bool false) (bf hc33 rfl) rfl) ?_
                refine WL_y (Y_assign (.bool false) rfl) ?_
                refine WL_nil (nm_then ?_)
                exact ⟨M, false, hF12, hS, rfl, hz⟩
            · replace hz := bif_ok_f hz hc27
              refine WL_s (j := 33) rfl (bf hc27 rfl) rfl ?_
              refine WL_s (j := 33) rfl (bf hc27 rfl) rfl ?_
              refine WL_s (j := 33) rfl (bf hc27 rfl) rfl ?_
              refine WL_s (j := 33) rfl (bf hc27 rfl) rfl ?_
              refine WL_s (j := 33) rfl (bf hc27 rfl) rfl ?_
              refine WL_y (Y_pick_f (.bool false) (bf hc27 rfl) rfl) ?_
              refine WL_y (Y_move (.bool false) rfl) ?_
              refine WL_s (j := 40) rfl rfl rfl ?_
              refine WL_s (j := 40) rfl rfl rfl ?_
              refine WL_s (j := 40) rfl rfl rfl ?_
              refine WL_s (j := 40) rfl rfl rfl ?_
              refine WL_s (j := 40) rfl rfl rfl ?_
              refine WL_y (Y_pick_f (.bool false) rfl rfl) ?_
              refine WL_y (Y_assign (.bool false) rfl) ?_
              refine WL_nil (nm_then ?_)
              exact ⟨M, false, hF12, hS, rfl, hz⟩
          · replace hz := bif_ok_f hz hc21
            refine WL_s (j := 26) rfl (bf hc21 rfl) rfl ?_
            refine WL_s (j := 26) rfl (bf hc21 rfl) rfl ?_
            refine WL_s (j := 26) rfl (bf hc21 rfl) rfl ?_
            refine WL_s (j := 26) rfl (bf hc21 rfl) rfl ?_
            refine WL_s (j := 26) rfl (bf hc21 rfl) rfl ?_
            refine WL_y (Y_pick_f (.bool false) (bf hc21 rfl) rfl) ?_
            refine WL_y (Y_move (.bool false) rfl) ?_
            refine WL_s (j := 33) rfl rfl rfl ?_
            refine WL_s (j := 33) rfl rfl rfl ?_
            refine WL_s (j := 33) rfl rfl rfl ?_
            refine WL_s (j := 33) rfl rfl rfl ?_
            refine WL_s (j := 33) rfl rfl rfl ?_
            refine WL_y (Y_pick_f (.bool false) rfl rfl) ?_
            refine WL_y (Y_move (.bool false) rfl) ?_
            refine WL_s (j := 40) rfl rfl rfl ?_
            refine WL_s (j := 40) rfl rfl rfl ?_
            refine WL_s (j := 40) rfl rfl rfl ?_
            refine WL_s (j := 40) rfl rfl rfl ?_
            refine WL_s (j := 40) rfl rfl rfl ?_
            refine WL_y (Y_pick_f (.bool false) rfl rfl) ?_
            refine WL_y (Y_assign (.bool false) rfl) ?_
            refine WL_nil (nm_then ?_)
            exact ⟨M, false, hF12, hS, rfl, hz⟩
        · replace hz := bif_ok_f hz hc15
          refine WL_s (j := 19) rfl (bf hc15 rfl) rfl ?_
          refine WL_s (j := 19) rfl (bf hc15 rfl) rfl ?_
          refine WL_s (j := 19) rfl (bf hc15 rfl) rfl ?_
          refine WL_s (j := 19) rfl (bf hc15 rfl) rfl ?_
          refine WL_s (j := 19) rfl (bf hc15 rfl) rfl ?_
          refine WL_y (Y_pick_f (.bool false) (bf hc15 rfl) rfl) ?_
          refine WL_y (Y_move (.bool false) rfl) ?_
          refine WL_s (j := 26) rfl rfl rfl ?_
          refine WL_s (j := 26) rfl rfl rfl ?_
          refine WL_s (j := 26) rfl rfl rfl ?_
          refine WL_s (j := 26) rfl rfl rfl ?_
          refine WL_s (j := 26) rfl rfl rfl ?_
          refine WL_y (Y_pick_f (.bool false) rfl rfl) ?_
          refine WL_y (Y_move (.bool false) rfl) ?_
          refine WL_s (j := 33) rfl rfl rfl ?_
          refine WL_s (j := 33) rfl rfl rfl ?_
          refine WL_s (j := 33) rfl rfl rfl ?_
          refine WL_s (j := 33) rfl rfl rfl ?_
          refine WL_s (j := 33) rfl rfl rfl ?_
          refine WL_y (Y_pick_f (.bool false) rfl rfl) ?_
          refine WL_y (Y_move (.bool false) rfl) ?_
          refine WL_s (j := 40) rfl rfl rfl ?_
          refine WL_s (j := 40) rfl rfl rfl ?_
          refine WL_s (j := 40) rfl rfl rfl ?_
          refine WL_s (j := 40) rfl rfl rfl ?_
          refine WL_s (j := 40) rfl rfl rfl ?_
          refine WL_y (Y_pick_f (.bool false) rfl rfl) ?_
          refine WL_y (Y_assign (.bool false) rfl) ?_
          refine WL_nil (nm_then ?_)
          exact ⟨M, false, hF12, hS, rfl, hz⟩
      · replace hz := bif_ok_f hz hc14
        refine WL_s (j := 12) rfl (bf hc14 rfl) rfl ?_
        refine WL_s (j := 12) rfl (bf hc14 rfl) rfl ?_
        refine WL_s (j := 12) rfl (bf hc14 rfl) rfl ?_
        refine WL_s (j := 12) rfl (bf hc14 rfl) rfl ?_
        refine WL_s (j := 12) rfl (bf hc14 rfl) rfl ?_
        refine WL_y (Y_pick_f (.bool false) (bf hc14 rfl) rfl) ?_
        refine WL_y (Y_move (.bool false) rfl) ?_
        refine WL_s (j := 19) rfl rfl rfl ?_
        refine WL_s (j := 19) rfl rfl rfl ?_
        refine WL_s (j := 19) rfl rfl rfl ?_
        refine WL_s (j := 19) rfl rfl rfl ?_
        refine WL_s (j := 19) rfl rfl rfl ?_
        refine WL_y (Y_pick_f (.bool false) rfl rfl) ?_
        refine WL_y (Y_move (.bool false) rfl) ?_
        refine WL_s (j := 26) rfl rfl rfl ?_
        refine WL_s (j := 26) rfl rfl rfl ?_
        refine WL_s (j := 26) rfl rfl rfl ?_
        refine WL_s (j := 26) rfl rfl rfl ?_
        refine WL_s (j := 26) rfl rfl rfl ?_
        refine WL_y (Y_pick_f (.bool false) rfl rfl) ?_
        refine WL_y (Y_move (.bool false) rfl) ?_
        refine WL_s (j := 33) rfl rfl rfl ?_
        refine WL_s (j := 33) rfl rfl rfl ?_
        refine WL_s (j := 33) rfl rfl rfl ?_
        refine WL_s (j := 33) rfl rfl rfl ?_
        refine WL_s (j := 33) rfl rfl rfl ?_
        refine WL_y (Y_pick_f (.bool false) rfl rfl) ?_
        refine WL_y (Y_move (.bool false) rfl) ?_
        refine WL_s (j := 40) rfl rfl rfl ?_
        refine WL_s (j := 40) rfl rfl rfl ?_
        refine WL_s (j := 40) rfl rfl rfl ?_
        refine WL_s (j := 40) rfl rfl rfl ?_
        refine WL_s (j := 40) rfl rfl rfl ?_
        refine WL_y (Y_pick_f (.bool false) rfl rfl) ?_
        refine WL_y (Y_assign (.bool false) rfl) ?_
        refine WL_nil (nm_then ?_)
        exact ⟨M, false, hF12, hS, rfl, hz⟩
    · replace hz := bif_ok_f hz hc13
      refine WL_s (j := 5) rfl (bf hc13 rfl) rfl ?_
      refine WL_s (j := 5) rfl (bf hc13 rfl) rfl ?_
      refine WL_s (j := 5) rfl (bf hc13 rfl) rfl ?_
      refine WL_s (j := 5) rfl (bf hc13 rfl) rfl ?_
      refine WL_s (j := 5) rfl (bf hc13 rfl) rfl ?_
      refine WL_y (Y_pick_f (.bool false) (bf hc13 rfl) rfl) ?_
      refine WL_y (Y_move (.bool false) rfl) ?_
      refine WL_s (j := 12) rfl rfl rfl ?_
      refine WL_s (j := 12) rfl rfl rfl ?_
      refine WL_s (j := 12) rfl rfl rfl ?_
      refine WL_s (j := 12) rfl rfl rfl ?_
      refine WL_s (j := 12) rfl rfl rfl ?_
      refine WL_y (Y_pick_f (.bool false) rfl rfl) ?_
      refine WL_y (Y_move (.bool false) rfl) ?_
      refine WL_s (j := 19) rfl rfl rfl ?_
      refine WL_s (j := 19) rfl rfl rfl ?_
      refine WL_s (j := 19) rfl rfl rfl ?_
      refine WL_s (j := 19) rfl rfl rfl ?_
      refine WL_s (j := 19) rfl rfl rfl ?_
      refine WL_y (Y_pick_f (.bool false) rfl rfl) ?_
      refine WL_y (Y_move (.bool false) rfl) ?_
      refine WL_s (j := 26) rfl rfl rfl ?_
      refine WL_s (j := 26) rfl rfl rfl ?_
      refine WL_s (j := 26) rfl rfl rfl ?_
      refine WL_s (j := 26) rfl rfl rfl ?_
      refine WL_s (j := 26) rfl rfl rfl ?_
      refine WL_y (Y_pick_f (.bool false) rfl rfl) ?_
      refine WL_y (Y_move (.bool false) rfl) ?_
      refine WL_s (j := 33) rfl rfl rfl ?_
      refine WL_s (j := 33) rfl rfl rfl ?_
      refine WL_s (j := 33) rfl rfl rfl ?_
      refine WL_s (j := 33) rfl rfl rfl ?_
      refine WL_s (j := 33) rfl rfl rfl ?_
      refine WL_y (Y_pick_f (.bool false) rfl rfl) ?_
      refine WL_y (Y_move (.bool false) rfl) ?_
      refine WL_s (j := 40) rfl rfl rfl ?_
      refine WL_s (j := 40) rfl rfl rfl ?_
      refine WL_s (j := 40) rfl rfl rfl ?_
      refine WL_s (j := 40) rfl rfl rfl ?_
      refine WL_s (j := 40) rfl rfl rfl ?_
      refine WL_y (Y_pick_f (.bool false) rfl rfl) ?_
      refine WL_y (Y_assign (.bool false) rfl) ?_
      refine WL_nil (nm_then ?_)
      exact ⟨M, false, hF12, hS, rfl, hz⟩
  · rintro T9 w7 ⟨M8, c10, hx11, hS, hT9_4, hz⟩
    replace hcx1 := Rep.mono hx11.1 hcx1
    replace hcx2 := Rep.mono hx11.1 hcx2
    replace hE := Mm.ext.trans hE hx11
    rw [keepSameFrame_j1] at hz
    cases hz
    exact W_ret (R_t1 rfl hT9_4 ⟨rfl, (St.dropB (St.dropB hS hb6) hb4).kept⟩)

def wireBack_j2 (c47 : Bool) : Option Bool :=
    some c47

def wireBack_j1 (fu : Nat) (x1 : GFrame) (x2 : Int) (r8 : ByteArray × Int) : Option Bool :=
    (decodeD fu r8.1).bind fun r15 =>
    (some r15.1).bind fun d20 =>
    (keepPickD fu x2 (r8.1.size : Int)).bind fun r23 =>
    (cutB r8.1 none (some r23)).bind fun s25 =>
    (decodeD fu s25).bind fun r28 =>
    (some r28.1).bind fun d33 =>
    (cat r8.1 (⟨#[120]⟩ : ByteArray)).bind fun s34 =>
    (decodeD fu s34).bind fun r38 =>
    (some r38.1).bind fun d43 =>
    (bif r15.2 == 0 then
    (keepSameFrameD fu x1 d20).bind fun r55 =>
    (bif r55 then
    (bif r28.2 == 1 then
    (bif r38.2 == 1 then
    wireBack_j2 (decide ((r8.1.size : Int) ≤ 400))
    else
    wireBack_j2 false)
    else
    wireBack_j2 false)
    else
    wireBack_j2 false)
    else
    wireBack_j2 false)

def wireBack_j4 (c69 : Bool) : Option Bool :=
    some c69

def wireBack_j3 (fu : Nat) (x1 : GFrame) (x2 : Int) (r8 : ByteArray × Int) (c63 : Bool) : Option Bool :=
    (bif c63 then
    (bif r8.1.toList == (⟨#[]⟩ : ByteArray).toList then
    (bif r8.2 != 0 then
    (some (frameZ x1)).bind fun r77 =>
    (bif r77 == r8.2 then
    (keepFramesD fu).bind fun r81 =>
    wireBack_j4 r81
    else
    wireBack_j4 false)
    else
    wireBack_j4 false)
    else
    wireBack_j4 false)
    else
    wireBack_j1 fu x1 x2 r8)

def wireBackD (fu : Nat) (x1 : GFrame) (x2 : Int) : Option Bool :=
    (encodeD fu x1).bind fun r8 =>
    (bif r8.2 != 0 then
    wireBack_j3 fu x1 x2 r8 true
    else
    (keepFramesD fu).bind fun r86 =>
    (bif !r86 then
    wireBack_j3 fu x1 x2 r8 true
    else
    wireBack_j3 fu x1 x2 r8 (r8.1.toList == (⟨#[]⟩ : ByteArray).toList)))

set_option maxRecDepth 100000 in
set_option maxHeartbeats 4000000 in
theorem wireBack_ok {M : Mm} {w : World} {cx1 : List Value} {x1 : GFrame} {x2 : Int} {fu : Nat} {r : Bool} (hA : Agree M w) (hcx1 : rep M cx1 x1) (hz : wireBackD fu x1 x2 = some r) :
    Calls Try.prog 8 #[.agg cx1.toArray, .int .i64 x2] w (GivesV w (.bool r)) := by
  refine calls_W Try.func8 rfl 84 rfl rfl (by kernel_rfl) fun T hT => ?_
  have hT_0 : T 0 = .agg cx1.toArray := hT 0
  have hT_1 : T 1 = .int .i64 x2 := hT 1
  clear hT
  have hE := Mm.ext.refl w.heap.size noX M
  have hS : St w noX M [] w := St.start hA
  rw [wireBackD] at hz
  refine W_seq ?_
  refine W_reg ?_
  refine WL_c (O_box (v := .agg cx1.toArray) (cs := cx1) hT_0 rfl hS ?_)
  intro b4 w3 hb4 hS
  replace hS : St w noX M [.box b4 cx1 50] w3 := hS
  refine WL_y (Y_assign (.bool false) rfl) ?_
  refine WL_nil (nm_then ?_)
  refine W_seq ?_
  refine W_reg ?_
  have ha5 := (rep_root (k := 7) rfl hcx1)
  refine WL_y (Y_ldn ta50 rfl (hS.bvB 0 rfl) (Rep.len ha5)) ?_
  obtain ⟨r8, hr7, hz⟩ := bind_ok hz
  refine WL_c (O_val (vs := [.agg (sl cx1 (0) 7).toArray]) (v := .tuple #[.string r8.1, .int .i64 r8.2]) cb30 (args1 rfl) hS (encode_ok hS.agree ha5 hr7) ?_)
  intro w6 hS
  refine WL_y (Y_move (.tuple #[.string r8.1, .int .i64 r8.2]) rfl) ?_
  refine WL_y (Y_extract (v := .string r8.1) rfl rfl) ?_
  refine WL_y (Y_extract (v := .int .i64 r8.2) rfl rfl) ?_
  refine WL_y (Y_assign (.string r8.1) rfl) ?_
  refine WL_y (Y_assign (.int .i64 r8.2) rfl) ?_
  refine WL_nil (nm_then ?_)
  refine W_seqJ (fun T' w' => ∃ M10, Mm.ext w.heap.size noX M M10 ∧ St w noX M10 [.box b4 cx1 50] w' ∧ T' 1 = .int .i64 x2 ∧ T' 2 = .pointer (some ⟨b4, 0, none⟩) ∧ T' 5 = .string r8.1 ∧ wireBack_j1 fu x1 x2 r8 = some r) ?_ ?_
  · have hF59 := Mm.ext.refl w.heap.size noX M
    refine W_seqJ (fun T' w' => ∃ M61 c63, Mm.ext w.heap.size noX M M61 ∧ St w noX M61 [.box b4 cx1 50] w' ∧ T' 1 = .int .i64 x2 ∧ T' 2 = .pointer (some ⟨b4, 0, none⟩) ∧ T' 5 = .string r8.1 ∧ T' 6 = .int .i64 r8.2 ∧ T' 27 = .bool c63 ∧ wireBack_j3 fu x1 x2 r8 c63 = some r) ?_ ?_
    · have hF82 := Mm.ext.refl w.heap.size noX M
      refine W_reg ?_
      refine WL_y (Y_move (.int .i64 r8.2) rfl) ?_
      refine WL_y (Y_neq rfl rfl) ?_
      refine WL_y (Y_move (.bool (r8.2 != 0)) rfl) ?_
      rcases Bool.eq_false_or_eq_true (r8.2 != 0) with hc83 | hc83
      · replace hz := bif_ok_t hz hc83
        refine WL_s (j := 2) rfl (bt hc83 rfl) rfl ?_
        refine WL_s (j := 2) rfl (bt hc83 rfl) rfl ?_
        refine WL_y (Y_pick_t (.bool true) (bt hc83 rfl) rfl) ?_
        refine WL_y (Y_move (.bool true) rfl) ?_
        refine WL_s (j := 6) rfl rfl rfl ?_
        refine WL_s (j := 6) rfl rfl rfl ?_
        refine WL_y (Y_pick_t (.bool true) rfl rfl) ?_
        refine WL_nil (nm_then ?_)
        exact ⟨M, true, hF82, hS, hT_1, rfl, rfl, rfl, rfl, hz⟩
      · replace hz := bif_ok_f hz hc83
        obtain ⟨r86, hr85, hz⟩ := bind_ok hz
        refine WL_g rfl (bf hc83 rfl) (O_val (vs := []) (v := .bool r86) cb31 args0 hS (keepFrames_ok hS.agree hr85) ?_)
        intro w84 hS
        refine WL_gy rfl (bf hc83 rfl) (Y_not rfl) ?_
        refine WL_y (Y_pick_f (.bool (!r86)) (bf hc83 rfl) rfl) ?_
        refine WL_y (Y_move (.bool (!r86)) rfl) ?_
        rcases Bool.eq_false_or_eq_true (!r86) with hc87 | hc87
        · replace hz := bif_ok_t hz hc87
          refine WL_s (j := 6) rfl (bt hc87 rfl) rfl ?_
          refine WL_s (j := 6) rfl (bt hc87 rfl) rfl ?_
          refine WL_y (Y_pick_t (.bool true) (bt hc87 rfl) rfl) ?_
          refine WL_nil (nm_then ?_)
          exact ⟨M, true, hF82, hS, hT_1, rfl, rfl, rfl, rfl, hz⟩
        · replace hz := bif_ok_f hz hc87
          refine WL_gy rfl (bf hc87 rfl) (Y_move (.string r8.1) rfl) ?_
          refine WL_gy rfl (bf hc87 rfl) (Y_eqS rfl rfl) ?_
          refine WL_y (Y_pick_f (.bool (r8.1.toList == (⟨#[]⟩ : ByteArray).toList)) (bf hc87 rfl) rfl) ?_
          refine WL_nil (nm_then ?_)
          exact ⟨M, (r8.1.toList == (⟨#[]⟩ : ByteArray).toList), hF82, hS, hT_1, rfl, rfl, rfl, rfl, hz⟩
    · rintro T62 w60 ⟨M61, c63, hx64, hS, hT62_1, hT62_2, hT62_5, hT62_6, hT62_27, hz⟩
      replace hcx1 := Rep.mono hx64.1 hcx1
      replace hE := Mm.ext.trans hE hx64
      replace hF59 := Mm.ext.trans hF59 hx64
      rw [wireBack_j3] at hz
      refine W_cond hT62_27 (fun hc65 => ?_) (fun hc65 => ?_)
      · replace hz := bif_ok_t hz hc65
        refine W_seqJ (fun T' w' => ∃ M67 c69, Mm.ext w.heap.size noX M61 M67 ∧ St w noX M67 [.box b4 cx1 50] w' ∧ T' 4 = .bool c69 ∧ wireBack_j4 c69 = some r) ?_ ?_
        · have hF71 := Mm.ext.refl w.heap.size noX M61
          refine W_reg ?_
          refine WL_y (Y_move (.string r8.1) hT62_5) ?_
          refine WL_y (Y_eqS rfl rfl) ?_
          refine WL_y (Y_move (.bool (r8.1.toList == (⟨#[]⟩ : ByteArray).toList)) rfl) ?_
          rcases Bool.eq_false_or_eq_true (r8.1.toList == (⟨#[]⟩ : ByteArray).toList) with hc72 | hc72
          · replace hz := bif_ok_t hz hc72
            refine WL_gy rfl (bt hc72 rfl) (Y_move (.int .i64 r8.2) hT62_6) ?_
            refine WL_gy rfl (bt hc72 rfl) (Y_neq rfl rfl) ?_
            refine WL_y (Y_pick_t (.bool (r8.2 != 0)) (bt hc72 rfl) rfl) ?_
            refine WL_y (Y_move (.bool (r8.2 != 0)) rfl) ?_
            rcases Bool.eq_false_or_eq_true (r8.2 != 0) with hc73 | hc73
            · replace hz := bif_ok_t hz hc73
              have ha74 := (rep_root (k := 7) rfl hcx1)
              refine WL_gy rfl (bt hc73 rfl) (Y_ldn ta50 hT62_2 (hS.bvB 0 rfl) (Rep.len ha74)) ?_
              obtain ⟨r77, hr76, hz⟩ := bind_ok hz
              replace hr76 := Option.some.inj hr76
              refine WL_g rfl (bt hc73 rfl) (O_val (vs := [.agg (sl cx1 (0) 7).toArray]) (v := .int .i64 r77) cb32 (args1 rfl) hS (hr76 ▸ (c_good hS.agree ha74)) ?_)
              intro w75 hS
              refine WL_gy rfl (bt hc73 rfl) (Y_move (.int .i64 r8.2) hT62_6) ?_
              refine WL_gy rfl (bt hc73 rfl) (Y_eql rfl rfl) ?_
              refine WL_y (Y_pick_t (.bool (r77 == r8.2)) (bt hc73 rfl) rfl) ?_
              refine WL_y (Y_move (.bool (r77 == r8.2)) rfl) ?_
              rcases Bool.eq_false_or_eq_true (r77 == r8.2) with hc78 | hc78
              · replace hz := bif_ok_t hz hc78
                obtain ⟨r81, hr80, hz⟩ := bind_ok hz
                refine WL_g rfl (bt hc78 rfl) (O_val (vs := []) (v := .bool r81) cb31 args0 hS (keepFrames_ok hS.agree hr80) ?_)
                intro w79 hS
                refine WL_y (Y_pick_t (.bool r81) (bt hc78 rfl) rfl) ?_
                refine WL_y (Y_assign (.bool r81) rfl) ?_
                refine WL_nil (nm_then ?_)
                exact ⟨M61, r81, hF71, hS, rfl, hz⟩
              · replace hz := bif_ok_f hz hc78
                refine WL_s (j := 12) rfl (bf hc78 rfl) rfl ?_
                refine WL_y (Y_pick_f (.bool false) (bf hc78 rfl) rfl) ?_
                refine WL_y (Y_assign (.bool false) rfl) ?_
                refine WL_nil (nm_then ?_)
                exact ⟨M61, false, hF71, hS, rfl, hz⟩
            · replace hz := bif_ok_f hz hc73
              refine WL_s (j := 6) rfl (bf hc73 rfl) rfl ?_
              refine WL_s (j := 6) rfl (bf hc73 rfl) rfl ?_
              refine WL_s (j := 6) rfl (bf hc73 rfl) rfl ?_
              refine WL_s (j := 6) rfl (bf hc73 rfl) rfl ?_
              refine WL_y (Y_pick_f (.bool false) (bf hc73 rfl) rfl) ?_
              refine WL_y (Y_move (.bool false) rfl) ?_
              refine WL_s (j := 12) rfl rfl rfl ?_
              refine WL_y (Y_pick_f (.bool false) rfl rfl) ?_
              refine WL_y (Y_assign (.bool false) rfl) ?_
              refine WL_nil (nm_then ?_)
              exact ⟨M61, false, hF71, hS, rfl, hz⟩
          · replace hz := bif_ok_f hz hc72
            refine WL_s (j := 2) rfl (bf hc72 rfl) rfl ?_
            refine WL_s (j := 2) rfl (bf hc72 rfl) rfl ?_
            refine WL_y (Y_pick_f (.bool false) (bf hc72 rfl) rfl) ?_
            refine WL_y (Y_move (.bool false) rfl) ?_
            refine WL_s (j := 6) rfl rfl rfl ?_
            refine WL_s (j := 6) rfl rfl rfl ?_
            refine WL_s (j := 6) rfl rfl rfl ?_
            refine WL_s (j := 6) rfl rfl rfl ?_
            refine WL_y (Y_pick_f (.bool false) rfl rfl) ?_
            refine WL_y (Y_move (.bool false) rfl) ?_
            refine WL_s (j := 12) rfl rfl rfl ?_
            refine WL_y (Y_pick_f (.bool false) rfl rfl) ?_
            refine WL_y (Y_assign (.bool false) rfl) ?_
            refine WL_nil (nm_then ?_)
            exact ⟨M61, false, hF71, hS, rfl, hz⟩
        · rintro T68 w66 ⟨M67, c69, hx70, hS, hT68_4, hz⟩
          replace hcx1 := Rep.mono hx70.1 hcx1
          replace hE := Mm.ext.trans hE hx70
          replace hF59 := Mm.ext.trans hF59 hx70
          rw [wireBack_j4] at hz
          cases hz
          exact W_ret (rt_then (R_t1 rfl hT68_4 ⟨rfl, (St.dropB hS hb4).kept⟩))
      · replace hz := bif_ok_f hz hc65
        refine W_skip (nm_then ?_)
        exact ⟨M61, hF59, hS, hT62_1, hT62_2, hT62_5, hz⟩
  · rintro T11 w9 ⟨M10, hx12, hS, hT11_1, hT11_2, hT11_5, hz⟩
    replace hcx1 := Rep.mono hx12.1 hcx1
    replace hE := Mm.ext.trans hE hx12
    rw [wireBack_j1] at hz
    refine W_seq ?_
    refine W_reg ?_
    refine WL_y (Y_move (.string r8.1) hT11_5) ?_
    obtain ⟨r15, hr14, hz⟩ := bind_ok hz
    refine WL_c (O_mem (vs := [.string r8.1]) (rv := (fun M' u => ∃ c0, u = .tuple #[.agg c0.toArray, .int .i64 r15.2] ∧ rep M' c0 r15.1)) cb26 (args1 rfl) hS (decode_ok hS.agree hr14) ?_)
    intro u14 M14 w13 hx14 hu14 hS
    obtain ⟨c14_0, hq14, f14_0⟩ := hu14
    subst hq14
    replace hcx1 := Rep.mono hx14.1 hcx1
    replace hE := Mm.ext.trans hE hx14
    refine WL_y (Y_move (.tuple #[.agg c14_0.toArray, .int .i64 r15.2]) rfl) ?_
    refine WL_y (Y_extract (v := .agg c14_0.toArray) rfl rfl) ?_
    refine WL_y (Y_extract (v := .int .i64 r15.2) rfl rfl) ?_
    refine WL_c (O_alloc tz50 hS ?_)
    intro b17 w16 hb17 hS
    replace hS : St w noX M14 [.box b17 (Zr.zc GFrame) 50, .box b4 cx1 50] w16 := hS
    have zb17 : rep M14 (Zr.zc GFrame) (Zr.zd : GFrame) := Zr.zr
    have hw19 : (c14_0 : List Value).length = 7 := Rep.len f14_0
    have hl19 : ((Zr.zc GFrame)).length = 7 := Rep.len zb17
    obtain ⟨d20, hd19, hz⟩ := bind_ok hz
    have hb19 : rep M14 (pt (Zr.zc GFrame) (0) c14_0) d20 := rep_eq (rep_whole (k := 7) (by rw [pt_length (by omega)]; exact hl19) (rep_leaf rfl f14_0 (by omega))) hd19
    generalize hg19 : (pt (Zr.zc GFrame) (0) c14_0) = cs19 at hb19
    refine WL_c (O_st (j := 0) (v := .agg c14_0.toArray) (ws := c14_0) hS rfl (by kernel_rfl) rfl rfl rfl hw19 (Rep.one f14_0) (by omega) ?_)
    rw [hg19]
    clear hg19
    intro w18 hS
    replace hS : St w noX M14 [.box b17 cs19 50, .box b4 cx1 50] w18 := hS
    refine WL_y (Y_assign (.int .i64 r15.2) rfl) ?_
    refine WL_nil (nm_then ?_)
    refine W_seq ?_
    refine W_reg ?_
    refine WL_y (Y_move (.string r8.1) hT11_5) ?_
    refine WL_y (Y_move (.int .i64 x2) hT11_1) ?_
    refine WL_y (Y_move (.string r8.1) hT11_5) ?_
    refine WL_y (Y_lenS Try.underlying9 rfl) ?_
    obtain ⟨r23, hr22, hz⟩ := bind_ok hz
    refine WL_c (O_val (vs := [.int .i64 x2, .int .i64 (r8.1.size : Int)]) (v := .int .i64 r23) cb33 (args2 rfl rfl) hS (keepPick_ok hS.agree hr22) ?_)
    intro w21 hS
    obtain ⟨s25, hx24, hz⟩ := bind_ok hz
    obtain ⟨⟨pp24, qq24⟩, hc24, hx24⟩ := Option.map_eq_some_iff.1 hx24
    refine WL_y ((hx24 ▸ Y_cutS (l := none) (h := (some r23)) Try.underlying9 rfl evn (evs rfl) hc24)) ?_
    obtain ⟨r28, hr27, hz⟩ := bind_ok hz
    refine WL_c (O_mem (vs := [.string s25]) (rv := (fun M' u => ∃ c0, u = .tuple #[.agg c0.toArray, .int .i64 r28.2] ∧ rep M' c0 r28.1)) cb26 (args1 rfl) hS (decode_ok hS.agree hr27) ?_)
    intro u27 M27 w26 hx27 hu27 hS
    obtain ⟨c27_0, hq27, f27_0⟩ := hu27
    subst hq27
    replace hcx1 := Rep.mono hx27.1 hcx1
    replace hb19 := Rep.mono hx27.1 hb19
    replace hE := Mm.ext.trans hE hx27
    refine WL_y (Y_move (.tuple #[.agg c27_0.toArray, .int .i64 r28.2]) rfl) ?_
    refine WL_y (Y_extract (v := .agg c27_0.toArray) rfl rfl) ?_
    refine WL_y (Y_extract (v := .int .i64 r28.2) rfl rfl) ?_
    refine WL_c (O_alloc tz50 hS ?_)
    intro b30 w29 hb30 hS
    replace hS : St w noX M27 [.box b30 (Zr.zc GFrame) 50, .box b17 cs19 50, .box b4 cx1 50] w29 := hS
    have zb30 : rep M27 (Zr.zc GFrame) (Zr.zd : GFrame) := Zr.zr
    have hw32 : (c27_0 : List Value).length = 7 := Rep.len f27_0
    have hl32 : ((Zr.zc GFrame)).length = 7 := Rep.len zb30
    obtain ⟨d33, hd32, hz⟩ := bind_ok hz
    have hb32 : rep M27 (pt (Zr.zc GFrame) (0) c27_0) d33 := rep_eq (rep_whole (k := 7) (by rw [pt_length (by omega)]; exact hl32) (rep_leaf rfl f27_0 (by omega))) hd32
    generalize hg32 : (pt (Zr.zc GFrame) (0) c27_0) = cs32 at hb32
    refine WL_c (O_st (j := 0) (v := .agg c27_0.toArray) (ws := c27_0) hS rfl (by kernel_rfl) rfl rfl rfl hw32 (Rep.one f27_0) (by omega) ?_)
    rw [hg32]
    clear hg32
    intro w31 hS
    replace hS : St w noX M27 [.box b30 cs32 50, .box b17 cs19 50, .box b4 cx1 50] w31 := hS
    refine WL_y (Y_assign (.int .i64 r28.2) rfl) ?_
    refine WL_nil (nm_then ?_)
    refine W_seq ?_
    refine W_reg ?_
    refine WL_y (Y_move (.string r8.1) hT11_5) ?_
    obtain ⟨s34, hx35, hz⟩ := bind_ok hz
    obtain ⟨hx35a, hx35⟩ := cat_some hx35
    refine WL_y ((hx35 ▸ Y_cat rfl rfl hx35a)) ?_
    obtain ⟨r38, hr37, hz⟩ := bind_ok hz
    refine WL_c (O_mem (vs := [.string s34]) (rv := (fun M' u => ∃ c0, u = .tuple #[.agg c0.toArray, .int .i64 r38.2] ∧ rep M' c0 r38.1)) cb26 (args1 rfl) hS (decode_ok hS.agree hr37) ?_)
    intro u37 M37 w36 hx37 hu37 hS
    obtain ⟨c37_0, hq37, f37_0⟩ := hu37
    subst hq37
    replace hcx1 := Rep.mono hx37.1 hcx1
    replace hb19 := Rep.mono hx37.1 hb19
    replace hb32 := Rep.mono hx37.1 hb32
    replace hE := Mm.ext.trans hE hx37
    refine WL_y (Y_move (.tuple #[.agg c37_0.toArray, .int .i64 r38.2]) rfl) ?_
    refine WL_y (Y_extract (v := .agg c37_0.toArray) rfl rfl) ?_
    refine WL_y (Y_extract (v := .int .i64 r38.2) rfl rfl) ?_
    refine WL_c (O_alloc tz50 hS ?_)
    intro b40 w39 hb40 hS
    replace hS : St w noX M37 [.box b40 (Zr.zc GFrame) 50, .box b30 cs32 50, .box b17 cs19 50, .box b4 cx1 50] w39 := hS
    have zb40 : rep M37 (Zr.zc GFrame) (Zr.zd : GFrame) := Zr.zr
    have hw42 : (c37_0 : List Value).length = 7 := Rep.len f37_0
    have hl42 : ((Zr.zc GFrame)).length = 7 := Rep.len zb40
    obtain ⟨d43, hd42, hz⟩ := bind_ok hz
    have hb42 : rep M37 (pt (Zr.zc GFrame) (0) c37_0) d43 := rep_eq (rep_whole (k := 7) (by rw [pt_length (by omega)]; exact hl42) (rep_leaf rfl f37_0 (by omega))) hd42
    generalize hg42 : (pt (Zr.zc GFrame) (0) c37_0) = cs42 at hb42
    refine WL_c (O_st (j := 0) (v := .agg c37_0.toArray) (ws := c37_0) hS rfl (by kernel_rfl) rfl rfl rfl hw42 (Rep.one f37_0) (by omega) ?_)
    rw [hg42]
    clear hg42
    intro w41 hS
    replace hS : St w noX M37 [.box b40 cs42 50, .box b30 cs32 50, .box b17 cs19 50, .box b4 cx1 50] w41 := hS
    refine WL_y (Y_assign (.int .i64 r38.2) rfl) ?_
    refine WL_nil (nm_then ?_)
    refine W_seqJ (fun T' w' => ∃ M45 c47, Mm.ext w.heap.size noX M37 M45 ∧ St w noX M45 [.box b40 cs42 50, .box b30 cs32 50, .box b17 cs19 50, .box b4 cx1 50] w' ∧ T' 4 = .bool c47 ∧ wireBack_j2 c47 = some r) ?_ ?_
    · have hF49 := Mm.ext.refl w.heap.size noX M37
      refine W_reg ?_
      refine WL_y (Y_move (.int .i64 r15.2) rfl) ?_
      refine WL_y (Y_eql rfl rfl) ?_
      refine WL_y (Y_move (.bool (r15.2 == 0)) rfl) ?_
      rcases Bool.eq_false_or_eq_true (r15.2 == 0) with hc50 | hc50
      · replace hz := bif_ok_t hz hc50
        have ha51 := (rep_root (k := 7) rfl hcx1)
        refine WL_gy rfl (bt hc50 rfl) (Y_ldn ta50 hT11_2 (hS.bvB 3 rfl) (Rep.len ha51)) ?_
        have ha52 := (rep_root (k := 7) rfl hb19)
        refine WL_gy rfl (bt hc50 rfl) (Y_ldn ta50 rfl (hS.bvB 2 rfl) (Rep.len ha52)) ?_
        obtain ⟨r55, hr54, hz⟩ := bind_ok hz
        refine WL_g rfl (bt hc50 rfl) (O_val (vs := [.agg (sl cx1 (0) 7).toArray, .agg (sl cs19 (0) 7).toArray]) (v := .bool r55) cb34 (args2 rfl rfl) hS (keepSameFrame_ok hS.agree ha51 ha52 hr54) ?_)
        intro w53 hS
        refine WL_y (Y_pick_t (.bool r55) (bt hc50 rfl) rfl) ?_
        refine WL_y (Y_move (.bool r55) rfl) ?_
        rcases Bool.eq_false_or_eq_true r55 with hc56 | hc56
        · replace hz := bif_ok_t hz hc56
          refine WL_gy rfl (bt hc56 rfl) (Y_move (.int .i64 r28.2) rfl) ?_
          refine WL_gy rfl (bt hc56 rfl) (Y_eql rfl rfl) ?_
          refine WL_y (Y_pick_t (.bool (r28.2 == 1)) (bt hc56 rfl) rfl) ?_
          refine WL_y (Y_move (.bool (r28.2 == 1)) rfl) ?_
          rcases Bool.eq_false_or_eq_true (r28.2 == 1) with hc57 | hc57
          · replace hz := bif_ok_t hz hc57
            refine WL_gy rfl (bt hc57 rfl) (Y_move (.int .i64 r38.2) rfl) ?_
            refine WL_gy rfl (bt hc57 rfl) (Y_eql rfl rfl) ?_
            refine WL_y (Y_pick_t (.bool (r38.2 == 1)) (bt hc57 rfl) rfl) ?_
            refine WL_y (Y_move (.bool (r38.2 == 1)) rfl) ?_
            rcases Bool.eq_false_or_eq_true (r38.2 == 1) with hc58 | hc58
            · replace hz := bif_ok_t hz hc58
              refine WL_gy rfl (bt hc58 rfl) (Y_move (.string r8.1) hT11_5) ?_
              refine WL_gy rfl (bt hc58 rfl) (Y_lenS Try.underlying9 rfl) ?_
              refine WL_gy rfl (bt hc58 rfl) (Y_leq rfl rfl) ?_
              refine WL_y (Y_pick_t (.bool (decide ((r8.1.size : Int) ≤ 400))) (bt hc58 rfl) rfl) ?_
              refine WL_y (Y_assign (.bool (decide ((r8.1.size : Int) ≤ 400))) rfl) ?_
              refine WL_nil (nm_then ?_)
              exact ⟨M37, (decide ((r8.1.size : Int) ≤ 400)), hF49, hS, rfl, hz⟩
            · replace hz := bif_ok_f hz hc58
              refine WL_s (j := 15) rfl (bf hc58 rfl) rfl ?_
              refine WL_s (j := 15) rfl (bf hc58 rfl) rfl ?_
              refine WL_s (j := 15) rfl (bf hc58 rfl) rfl ?_
              refine WL_y (Y_pick_f (.bool false) (bf hc58 rfl) rfl) ?_
              refine WL_y (Y_assign (.bool false) rfl) ?_
              refine WL_nil (nm_then ?_)
              exact ⟨M37, false, hF49, hS, rfl, hz⟩
          · replace hz := bif_ok_f hz hc57
            refine WL_s (j := 11) rfl (bf hc57 rfl) rfl ?_
            refine WL_s (j := 11) rfl (bf hc57 rfl) rfl ?_
            refine WL_y (Y_pick_f (.bool false) (bf hc57 rfl) rfl) ?_
            refine WL_y (Y_move (.bool false) rfl) ?_
            refine WL_s (j := 15) rfl rfl rfl ?_
            refine WL_s (j := 15) rfl rfl rfl ?_
            refine WL_s (j := 15) rfl rfl rfl ?_
            refine WL_y (Y_pick_f (.bool false) rfl rfl) ?_
            refine WL_y (Y_assign (.bool false) rfl) ?_
            refine WL_nil (nm_then ?_)
            exact ⟨M37, false, hF49, hS, rfl, hz⟩
        · replace hz := bif_ok_f hz hc56
          refine WL_s (j := 7) rfl (bf hc56 rfl) rfl ?_
          refine WL_s (j := 7) rfl (bf hc56 rfl) rfl ?_
          refine WL_y (Y_pick_f (.bool false) (bf hc56 rfl) rfl) ?_
          refine WL_y (Y_move (.bool false) rfl) ?_
          refine WL_s (j := 11) rfl rfl rfl ?_
          refine WL_s (j := 11) rfl rfl rfl ?_
          refine WL_y (Y_pick_f (.bool false) rfl rfl) ?_
          refine WL_y (Y_move (.bool false) rfl) ?_
          refine WL_s (j := 15) rfl rfl rfl ?_
          refine WL_s (j := 15) rfl rfl rfl ?_
          refine WL_s (j := 15) rfl rfl rfl ?_
          refine WL_y (Y_pick_f (.bool false) rfl rfl) ?_
          refine WL_y (Y_assign (.bool false) rfl) ?_
          refine WL_nil (nm_then ?_)
          exact ⟨M37, false, hF49, hS, rfl, hz⟩
      · replace hz := bif_ok_f hz hc50
        refine WL_s (j := 2) rfl (bf hc50 rfl) rfl ?_
        refine WL_s (j := 2) rfl (bf hc50 rfl) rfl ?_
        refine WL_s (j := 2) rfl (bf hc50 rfl) rfl ?_
        refine WL_y (Y_pick_f (.bool false) (bf hc50 rfl) rfl) ?_
        refine WL_y (Y_move (.bool false) rfl) ?_
        refine WL_s (j := 7) rfl rfl rfl ?_
        refine WL_s (j := 7) rfl rfl rfl ?_
        refine WL_y (Y_pick_f (.bool false) rfl rfl) ?_
        refine WL_y (Y_move (.bool false) rfl) ?_
        refine WL_s (j := 11) rfl rfl rfl ?_
        refine WL_s (j := 11) rfl rfl rfl ?_
        refine WL_y (Y_pick_f (.bool false) rfl rfl) ?_
        refine WL_y (Y_move (.bool false) rfl) ?_
        refine WL_s (j := 15) rfl rfl rfl ?_
        refine WL_s (j := 15) rfl rfl rfl ?_
        refine WL_s (j := 15) rfl rfl rfl ?_
        refine WL_y (Y_pick_f (.bool false) rfl rfl) ?_
        refine WL_y (Y_assign (.bool false) rfl) ?_
        refine WL_nil (nm_then ?_)
        exact ⟨M37, false, hF49, hS, rfl, hz⟩
    · rintro T46 w44 ⟨M45, c47, hx48, hS, hT46_4, hz⟩
      replace hcx1 := Rep.mono hx48.1 hcx1
      replace hb19 := Rep.mono hx48.1 hb19
      replace hb32 := Rep.mono hx48.1 hb32
      replace hb42 := Rep.mono hx48.1 hb42
      replace hE := Mm.ext.trans hE hx48
      rw [wireBack_j2] at hz
      cases hz
      exact W_ret (R_t1 rfl hT46_4 ⟨rfl, (St.dropB (St.dropB (St.dropB (St.dropB hS hb40) hb30) hb17) hb4).kept⟩)

def wireOnly_j2 (c21 : Bool) : Option Bool :=
    some c21

def wireOnly_j1 (fu : Nat) (x1 : ByteArray) (d9 : GFrame) : Option Bool :=
    (encodeD fu d9).bind fun r17 =>
    (bif r17.2 == 0 then
    wireOnly_j2 (r17.1.toList == x1.toList)
    else
    wireOnly_j2 false)

def wireOnly_j4 (c35 : Bool) : Option Bool :=
    some c35

def wireOnly_j3 (fu : Nat) (x1 : ByteArray) (d9 : GFrame) (c29 : Bool) : Option Bool :=
    (bif c29 then
    (some ({ kind := Zr.zd, node := Zr.zd, id := Zr.zd, ops := Zr.zd, deps := Zr.zd, at_ := Zr.zd, vals := Zr.zd } : GFrame)).bind fun d40 =>
    (keepSameFrameD fu d9 d40).bind fun r43 =>
    (bif r43 then
    (keepFramesD fu).bind fun r47 =>
    wireOnly_j4 r47
    else
    wireOnly_j4 false)
    else
    wireOnly_j1 fu x1 d9)

def wireOnlyD (fu : Nat) (x1 : ByteArray) : Option Bool :=
    (decodeD fu x1).bind fun r4 =>
    (some r4.1).bind fun d9 =>
    (bif r4.2 != 0 then
    wireOnly_j3 fu x1 d9 true
    else
    (keepFramesD fu).bind fun r52 =>
    wireOnly_j3 fu x1 d9 (!r52))

set_option maxRecDepth 100000 in
set_option maxHeartbeats 4000000 in
theorem wireOnly_ok {M : Mm} {w : World} {x1 : ByteArray} {fu : Nat} {r : Bool} (hA : Agree M w)  (hz : wireOnlyD fu x1 = some r) :
    Calls Try.prog 9 #[.string x1] w (GivesV w (.bool r)) := by
  refine calls_W Try.func9 rfl 36 rfl rfl (by kernel_rfl) fun T hT => ?_
  have hT_0 : T 0 = .string x1 := hT 0
  clear hT
  have hE := Mm.ext.refl w.heap.size noX M
  have hS : St w noX M [] w := St.start hA
  rw [wireOnlyD] at hz
  refine W_seq ?_
  refine W_reg ?_
  refine WL_y (Y_assign (.bool false) rfl) ?_
  refine WL_nil (nm_then ?_)
  refine W_seq ?_
  refine W_reg ?_
  refine WL_y (Y_move (.string x1) hT_0) ?_
  obtain ⟨r4, hr3, hz⟩ := bind_ok hz
  refine WL_c (O_mem (vs := [.string x1]) (rv := (fun M' u => ∃ c0, u = .tuple #[.agg c0.toArray, .int .i64 r4.2] ∧ rep M' c0 r4.1)) cb26 (args1 rfl) hS (decode_ok hS.agree hr3) ?_)
  intro u3 M3 w2 hx3 hu3 hS
  obtain ⟨c3_0, hq3, f3_0⟩ := hu3
  subst hq3
  replace hE := Mm.ext.trans hE hx3
  refine WL_y (Y_move (.tuple #[.agg c3_0.toArray, .int .i64 r4.2]) rfl) ?_
  refine WL_y (Y_extract (v := .agg c3_0.toArray) rfl rfl) ?_
  refine WL_y (Y_extract (v := .int .i64 r4.2) rfl rfl) ?_
  refine WL_c (O_alloc tz50 hS ?_)
  intro b6 w5 hb6 hS
  replace hS : St w noX M3 [.box b6 (Zr.zc GFrame) 50] w5 := hS
  have zb6 : rep M3 (Zr.zc GFrame) (Zr.zd : GFrame) := Zr.zr
  have hw8 : (c3_0 : List Value).length = 7 := Rep.len f3_0
  have hl8 : ((Zr.zc GFrame)).length = 7 := Rep.len zb6
  obtain ⟨d9, hd8, hz⟩ := bind_ok hz
  have hb8 : rep M3 (pt (Zr.zc GFrame) (0) c3_0) d9 := rep_eq (rep_whole (k := 7) (by rw [pt_length (by omega)]; exact hl8) (rep_leaf rfl f3_0 (by omega))) hd8
  generalize hg8 : (pt (Zr.zc GFrame) (0) c3_0) = cs8 at hb8
  refine WL_c (O_st (j := 0) (v := .agg c3_0.toArray) (ws := c3_0) hS rfl (by kernel_rfl) rfl rfl rfl hw8 (Rep.one f3_0) (by omega) ?_)
  rw [hg8]
  clear hg8
  intro w7 hS
  replace hS : St w noX M3 [.box b6 cs8 50] w7 := hS
  refine WL_y (Y_assign (.int .i64 r4.2) rfl) ?_
  refine WL_nil (nm_then ?_)
  refine W_seqJ (fun T' w' => ∃ M11, Mm.ext w.heap.size noX M3 M11 ∧ St w noX M11 [.box b6 cs8 50] w' ∧ T' 0 = .string x1 ∧ T' 3 = .pointer (some ⟨b6, 0, none⟩) ∧ wireOnly_j1 fu x1 d9 = some r) ?_ ?_
  · have hF25 := Mm.ext.refl w.heap.size noX M3
    refine W_seqJ (fun T' w' => ∃ M27 c29, Mm.ext w.heap.size noX M3 M27 ∧ St w noX M27 [.box b6 cs8 50] w' ∧ T' 0 = .string x1 ∧ T' 3 = .pointer (some ⟨b6, 0, none⟩) ∧ T' 17 = .bool c29 ∧ wireOnly_j3 fu x1 d9 c29 = some r) ?_ ?_
    · have hF48 := Mm.ext.refl w.heap.size noX M3
      refine W_reg ?_
      refine WL_y (Y_move (.int .i64 r4.2) rfl) ?_
      refine WL_y (Y_neq rfl rfl) ?_
      refine WL_y (Y_move (.bool (r4.2 != 0)) rfl) ?_
      rcases Bool.eq_false_or_eq_true (r4.2 != 0) with hc49 | hc49
      · replace hz := bif_ok_t hz hc49
        refine WL_s (j := 2) rfl (bt hc49 rfl) rfl ?_
        refine WL_s (j := 2) rfl (bt hc49 rfl) rfl ?_
        refine WL_y (Y_pick_t (.bool true) (bt hc49 rfl) rfl) ?_
        refine WL_nil (nm_then ?_)
        exact ⟨M3, true, hF48, hS, hT_0, rfl, rfl, hz⟩
      · replace hz := bif_ok_f hz hc49
        obtain ⟨r52, hr51, hz⟩ := bind_ok hz
        refine WL_g rfl (bf hc49 rfl) (O_val (vs := []) (v := .bool r52) cb31 args0 hS (keepFrames_ok hS.agree hr51) ?_)
        intro w50 hS
        refine WL_gy rfl (bf hc49 rfl) (Y_not rfl) ?_
        refine WL_y (Y_pick_f (.bool (!r52)) (bf hc49 rfl) rfl) ?_
        refine WL_nil (nm_then ?_)
        exact ⟨M3, (!r52), hF48, hS, hT_0, rfl, rfl, hz⟩
    · rintro T28 w26 ⟨M27, c29, hx30, hS, hT28_0, hT28_3, hT28_17, hz⟩
      replace hb8 := Rep.mono hx30.1 hb8
      replace hE := Mm.ext.trans hE hx30
      replace hF25 := Mm.ext.trans hF25 hx30
      rw [wireOnly_j3] at hz
      refine W_cond hT28_17 (fun hc31 => ?_) (fun hc31 => ?_)
      · replace hz := bif_ok_t hz hc31
        refine W_seqJ (fun T' w' => ∃ M33 c35, Mm.ext w.heap.size noX M27 M33 ∧ St w noX M33 [.box b6 cs8 50] w' ∧ T' 2 = .bool c35 ∧ wireOnly_j4 c35 = some r) ?_ ?_
        · have hF37 := Mm.ext.refl w.heap.size noX M27
          refine W_reg ?_
          have ha38 := (rep_root (k := 7) rfl hb8)
          refine WL_y (Y_ldn ta50 hT28_3 (hS.bvB 0 rfl) (Rep.len ha38)) ?_
          obtain ⟨d40, hd39, hz⟩ := bind_ok hz
          obtain ⟨cs39, hf39, ha39⟩ : ∃ cs, fillZ (([(0, 1), (1, 1), (2, 1), (3, 1), (4, 1), (5, 1), (6, 1)] : List (Nat × Nat))[·]?) (Zr.zc GFrame) [] = some cs ∧ rep M27 cs d40 := ⟨_, fz_nil, rep_eq (x := ({ kind := Zr.zd, node := Zr.zd, id := Zr.zd, ops := Zr.zd, deps := Zr.zd, at_ := Zr.zd, vals := Zr.zd } : GFrame)) (Zr.zr : rep M27 (Zr.zc GFrame) (Zr.zd : GFrame)) hd39⟩
          refine WL_y (Y_build [] tb50 bp0 hf39) ?_
          obtain ⟨r43, hr42, hz⟩ := bind_ok hz
          refine WL_c (O_val (vs := [.agg (sl cs8 (0) 7).toArray, .agg cs39.toArray]) (v := .bool r43) cb34 (args2 rfl rfl) hS (keepSameFrame_ok hS.agree ha38 ha39 hr42) ?_)
          intro w41 hS
          refine WL_y (Y_move (.bool r43) rfl) ?_
          rcases Bool.eq_false_or_eq_true r43 with hc44 | hc44
          · replace hz := bif_ok_t hz hc44
            obtain ⟨r47, hr46, hz⟩ := bind_ok hz
            refine WL_g rfl (bt hc44 rfl) (O_val (vs := []) (v := .bool r47) cb31 args0 hS (keepFrames_ok hS.agree hr46) ?_)
            intro w45 hS
            refine WL_y (Y_pick_t (.bool r47) (bt hc44 rfl) rfl) ?_
            refine WL_y (Y_assign (.bool r47) rfl) ?_
            refine WL_nil (nm_then ?_)
            exact ⟨M27, r47, hF37, hS, rfl, hz⟩
          · replace hz := bif_ok_f hz hc44
            refine WL_s (j := 3) rfl (bf hc44 rfl) rfl ?_
            refine WL_y (Y_pick_f (.bool false) (bf hc44 rfl) rfl) ?_
            refine WL_y (Y_assign (.bool false) rfl) ?_
            refine WL_nil (nm_then ?_)
            exact ⟨M27, false, hF37, hS, rfl, hz⟩
        · rintro T34 w32 ⟨M33, c35, hx36, hS, hT34_2, hz⟩
          replace hb8 := Rep.mono hx36.1 hb8
          replace hE := Mm.ext.trans hE hx36
          replace hF25 := Mm.ext.trans hF25 hx36
          rw [wireOnly_j4] at hz
          cases hz
          exact W_ret (rt_then (R_t1 rfl hT34_2 ⟨rfl, (St.dropB hS hb6).kept⟩))
      · replace hz := bif_ok_f hz hc31
        refine W_skip (nm_then ?_)
        exact ⟨M27, hF25, hS, hT28_0, hT28_3, hz⟩
  · rintro T12 w10 ⟨M11, hx13, hS, hT12_0, hT12_3, hz⟩
    replace hb8 := Rep.mono hx13.1 hb8
    replace hE := Mm.ext.trans hE hx13
    rw [wireOnly_j1] at hz
    refine W_seq ?_
    refine W_reg ?_
    have ha14 := (rep_root (k := 7) rfl hb8)
    refine WL_y (Y_ldn ta50 hT12_3 (hS.bvB 0 rfl) (Rep.len ha14)) ?_
    obtain ⟨r17, hr16, hz⟩ := bind_ok hz
    refine WL_c (O_val (vs := [.agg (sl cs8 (0) 7).toArray]) (v := .tuple #[.string r17.1, .int .i64 r17.2]) cb30 (args1 rfl) hS (encode_ok hS.agree ha14 hr16) ?_)
    intro w15 hS
    refine WL_y (Y_move (.tuple #[.string r17.1, .int .i64 r17.2]) rfl) ?_
    refine WL_y (Y_extract (v := .string r17.1) rfl rfl) ?_
    refine WL_y (Y_extract (v := .int .i64 r17.2) rfl rfl) ?_
    refine WL_y (Y_assign (.string r17.1) rfl) ?_
    refine WL_y (Y_assign (.int .i64 r17.2) rfl) ?_
    refine WL_nil (nm_then ?_)
    refine W_seqJ (fun T' w' => ∃ M19 c21, Mm.ext w.heap.size noX M11 M19 ∧ St w noX M19 [.box b6 cs8 50] w' ∧ T' 2 = .bool c21 ∧ wireOnly_j2 c21 = some r) ?_ ?_
    · have hF23 := Mm.ext.refl w.heap.size noX M11
      refine W_reg ?_
      refine WL_y (Y_move (.int .i64 r17.2) rfl) ?_
      refine WL_y (Y_eql rfl rfl) ?_
      refine WL_y (Y_move (.bool (r17.2 == 0)) rfl) ?_
      rcases Bool.eq_false_or_eq_true (r17.2 == 0) with hc24 | hc24
      · replace hz := bif_ok_t hz hc24
        refine WL_gy rfl (bt hc24 rfl) (Y_move (.string r17.1) rfl) ?_
        refine WL_gy rfl (bt hc24 rfl) (Y_move (.string x1) hT12_0) ?_
        refine WL_gy rfl (bt hc24 rfl) (Y_eqS rfl rfl) ?_
        refine WL_y (Y_pick_t (.bool (r17.1.toList == x1.toList)) (bt hc24 rfl) rfl) ?_
        refine WL_y (Y_assign (.bool (r17.1.toList == x1.toList)) rfl) ?_
        refine WL_nil (nm_then ?_)
        exact ⟨M11, (r17.1.toList == x1.toList), hF23, hS, rfl, hz⟩
      · replace hz := bif_ok_f hz hc24
        refine WL_s (j := 2) rfl (bf hc24 rfl) rfl ?_
        refine WL_s (j := 2) rfl (bf hc24 rfl) rfl ?_
        refine WL_s (j := 2) rfl (bf hc24 rfl) rfl ?_
        refine WL_y (Y_pick_f (.bool false) (bf hc24 rfl) rfl) ?_
        refine WL_y (Y_assign (.bool false) rfl) ?_
        refine WL_nil (nm_then ?_)
        exact ⟨M11, false, hF23, hS, rfl, hz⟩
    · rintro T20 w18 ⟨M19, c21, hx22, hS, hT20_2, hz⟩
      replace hb8 := Rep.mono hx22.1 hb8
      replace hE := Mm.ext.trans hE hx22
      rw [wireOnly_j2] at hz
      cases hz
      exact W_ret (R_t1 rfl hT20_2 ⟨rfl, (St.dropB hS hb6).kept⟩)

end Go.Proofs.Ytnfdgjdnlikepab
