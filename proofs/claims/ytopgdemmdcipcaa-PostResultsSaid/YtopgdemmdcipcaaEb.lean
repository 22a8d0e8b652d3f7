/- What functions compute, and that they do. (Written by dc.py.) -/
import Derived.Test.YtopgdemmdcipcaaEa
namespace Go.Proofs.Ytopgdemmdcipcaa
open Go.RowKit
open Rep (rep)
set_option linter.unusedVariables false

def cloneOpsD (fu : Nat) (x1 : List GOp) : Option (List GOp) :=
    (app ([] : List GOp) x1).bind fun l8 =>
    some l8

set_option maxRecDepth 100000 in
set_option maxHeartbeats 4000000 in
theorem cloneOps_ok {M : Mm} {w : World} {vx1 : Value} {x1 : List GOp} {fu : Nat} {r : (List GOp)} (hA : Agree M w) (hvx1 : repL M vx1 x1) (hz : cloneOpsD fu x1 = some r) :
    Calls Try.prog 39 #[vx1] w (Gives M w (fun M' u => repL M' u r)) := by
  refine calls_W Try.func39 rfl 8 rfl rfl (by kernel_rfl) fun T hT => ?_
  have hT_0 : T 0 = vx1 := hT 0
  clear hT
  have hE := Mm.ext.refl w.heap.size noX M
  have hS : St w noX M [] w := St.start hA
  rw [cloneOpsD] at hz
  refine W_seq ?_
  refine W_reg ?_
  refine WL_y (Y_assign ((.slice none 0 0)) rfl) ?_
  refine WL_nil (nm_then ?_)
  refine W_seq ?_
  refine W_seq ?_
  refine W_reg ?_
  refine WL_y (Y_move (vx1) hT_0) ?_
  refine WL_y (Y_eqNilL rfl rfl Try.underlying22 hvx1) ?_
  refine WL_nil (nm_then ?_)
  refine W_cond rfl (fun hc2 => ?_) (fun hc2 => ?_)
  · replace hz : (some []) = some r := by rw [repL_isNil hvx1 hc2] at hz; simpa [app] using hz
    refine W_seq ?_
    refine W_reg ?_
    refine WL_y (Y_assign ((.slice none 0 0)) rfl) ?_
    refine WL_nil (nm_then ?_)
    cases hz
    exact W_ret (rt_then (R_t1 rfl rfl (Gives.mk hS hE (repL_nil _))))
  · skip
    refine W_skip (nm_then ?_)
    refine W_seq ?_
    refine W_reg ?_
    refine WL_c (O_bslice0R tp22 hS ?_)
    intro v4 M4 w3 hx4 hv4 hS
    replace hv4 : repL M4 v4 ([] : List GOp) := hv4 _
    replace hvx1 := repL.mono hx4.1 hvx1
    replace hE := Mm.ext.trans hE hx4
    replace hS : St w noX M4 [.row v4 78 3] w3 := hS
    refine WL_y (Y_move (vx1) hT_0) ?_
    obtain ⟨l8, hr7, hz⟩ := bind_ok hz
    obtain ⟨hy7, hs7⟩ := app_some hr7
    refine WL_c (O_app (α := GOp) (j := 0) tp22 hS rfl rfl rfl hv4 hvx1 hy7 ?_)
    intro v7 M7 w6 hx7 hv7 hS
    rw [← hs7] at hv7
    clear hr7 hs7
    replace hvx1 := repL.mono hx7.1 hvx1
    replace hv4 := repL.mono hx7.1 hv4
    replace hE := Mm.ext.trans hE hx7
    replace hS : St w noX M7 [.row v7 78 3] w6 := hS
    refine WL_y (Y_assign (v7) rfl) ?_
    refine WL_nil (nm_then ?_)
    cases hz
    exact W_ret (R_t1 rfl rfl (Gives.mk (St.drop hS) hE hv7))

def cloneIntsD (fu : Nat) (x1 : List Int) : Option (List Int) :=
    (app ([] : List Int) x1).bind fun l8 =>
    some l8

set_option maxRecDepth 100000 in
set_option maxHeartbeats 4000000 in
theorem cloneInts_ok {M : Mm} {w : World} {vx1 : Value} {x1 : List Int} {fu : Nat} {r : (List Int)} (hA : Agree M w) (hvx1 : repL M vx1 x1) (hz : cloneIntsD fu x1 = some r) :
    Calls Try.prog 50 #[vx1] w (GivesL M w [] (fun M' u L' => ∃ v0, u = v0 ∧ L' = [.row v0 3 1] ∧ repL M' v0 r)) := by
  refine calls_W Try.func50 rfl 8 rfl rfl (by kernel_rfl) fun T hT => ?_
  have hT_0 : T 0 = vx1 := hT 0
  clear hT
  have hE := Mm.ext.refl w.heap.size (lentX []) M
  have hS : St w (lentX []) M [] w := St.start hA
  rw [cloneIntsD] at hz
  refine W_seq ?_
  refine W_reg ?_
  refine WL_y (Y_assign ((.slice none 0 0)) rfl) ?_
  refine WL_nil (nm_then ?_)
  refine W_seq ?_
  refine W_seq ?_
  refine W_reg ?_
  refine WL_y (Y_move (vx1) hT_0) ?_
  refine WL_y (Y_eqNilL rfl rfl Try.underlying27 hvx1) ?_
  refine WL_nil (nm_then ?_)
  refine W_cond rfl (fun hc2 => ?_) (fun hc2 => ?_)
  · replace hz : (some []) = some r := by rw [repL_isNil hvx1 hc2] at hz; simpa [app] using hz
    refine W_seq ?_
    refine W_reg ?_
    refine WL_y (Y_assign ((.slice none 0 0)) rfl) ?_
    refine WL_nil (nm_then ?_)
    replace hS := hS.nilRow 3 1
    replace hS : St w (lentX []) M [.row (.slice none 0 0) 3 1] w := hS
    cases hz
    exact W_ret (rt_then (R_t1 rfl rfl ⟨_, M, _, rfl, hE, (hS.sel (H' := [.row (.slice none 0 0) 3 1]) [0] (by decide) rfl), (.slice none 0 0), rfl, rfl, (repL_nil _)⟩))
  · skip
    refine W_skip (nm_then ?_)
    refine W_seq ?_
    refine W_reg ?_
    refine WL_c (O_bslice0R tp27 hS ?_)
    intro v4 M4 w3 hx4 hv4 hS
    replace hv4 : repL M4 v4 ([] : List Int) := hv4 _
    replace hvx1 := repL.mono hx4.1 hvx1
    replace hE := Mm.ext.trans hE hx4
    replace hS : St w (lentX []) M4 [.row v4 3 1] w3 := hS
    refine WL_y (Y_move (vx1) hT_0) ?_
    obtain ⟨l8, hr7, hz⟩ := bind_ok hz
    obtain ⟨hy7, hs7⟩ := app_some hr7
    refine WL_c (O_app (α := Int) (j := 0) tp27 hS rfl rfl rfl hv4 hvx1 hy7 ?_)
    intro v7 M7 w6 hx7 hv7 hS
    rw [← hs7] at hv7
    clear hr7 hs7
    replace hvx1 := repL.mono hx7.1 hvx1
    replace hv4 := repL.mono hx7.1 hv4
    replace hE := Mm.ext.trans hE hx7
    replace hS : St w (lentX []) M7 [.row v7 3 1] w6 := hS
    refine WL_y (Y_assign (v7) rfl) ?_
    refine WL_nil (nm_then ?_)
    cases hz
    exact W_ret (R_t1 rfl rfl ⟨_, M7, _, rfl, hE, (hS.sel (H' := [.row v7 3 1]) [0] (by decide) rfl), v7, rfl, rfl, hv7⟩)

def postGood_j1 (c8 : Bool) : Option Bool :=
    some c8

def postGood_j2 (c32 : Bool) : Option Bool :=
    some c32

def postGoodD (fu : Nat) (x1 : GCase) : Option Bool :=
    (bif !x1.begun then
    (bif !x1.fixed then
    (bif (x1.ops.length : Int) == 0 then
    (bif (x1.deps.length : Int) == 0 then
    (bif decide (x1.told = (Zr.zd : Vector Bool 6)) then
    (bif decide (x1.known = (Zr.zd : Vector Bool 6)) then
    (bif decide (x1.has = (Zr.zd : Vector Bool 4)) then
    postGood_j1 (decide (x1.values = (Zr.zd : Vector Int 4)))
    else
    postGood_j1 false)
    else
    postGood_j1 false)
    else
    postGood_j1 false)
    else
    postGood_j1 false)
    else
    postGood_j1 false)
    else
    postGood_j1 false)
    else
    (some (goodOpsZ x1.ops)).bind fun r38 =>
    (bif r38 then
    (some (risingZ x1.deps)).bind fun r43 =>
    postGood_j2 r43
    else
    postGood_j2 false))

set_option maxRecDepth 100000 in
set_option maxHeartbeats 4000000 in
theorem postGood_ok {M : Mm} {w : World} {cx1 : List Value} {x1 : GCase} {fu : Nat} {r : Bool} (hA : Agree M w) (hcx1 : rep M cx1 x1) (hz : postGoodD fu x1 = some r) :
    Calls Try.prog 41 #[.agg cx1.toArray] w (GivesV w (.bool r)) := by
  refine calls_W Try.func41 rfl 53 rfl rfl (by kernel_rfl) fun T hT => ?_
  have hT_0 : T 0 = .agg cx1.toArray := hT 0
  clear hT
  have hE := Mm.ext.refl w.heap.size noX M
  have hS : St w noX M [] w := St.start hA
  rw [postGoodD] at hz
  refine W_seq ?_
  refine W_reg ?_
  refine WL_c (O_box (v := .agg cx1.toArray) (cs := cx1) hT_0 rfl hS ?_)
  intro b3 w2 hb3 hS
  replace hS : St w noX M [.box b3 cx1 31] w2 := hS
  refine WL_y (Y_assign (.bool false) rfl) ?_
  refine WL_nil (nm_then ?_)
  refine W_seq ?_
  refine W_seq ?_
  refine W_reg ?_
  refine WL_y (Y_fa fa31_0 rfl) ?_
  refine WL_y (Y_ld1 (.bool x1.begun) ts4 rfl (hS.bvB 0 rfl) (GCase.p0 (rep_root (k := 24) rfl hcx1))) ?_
  refine WL_y (Y_not rfl) ?_
  refine WL_nil (nm_then ?_)
  refine W_cond rfl (fun hc4 => ?_) (fun hc4 => ?_)
  · replace hz := bif_ok_t hz hc4
    refine W_seqJ (fun T' w' => ∃ M6 c8, Mm.ext w.heap.size noX M M6 ∧ St w noX M6 [.box b3 cx1 31] w' ∧ T' 2 = .bool c8 ∧ postGood_j1 c8 = some r) ?_ ?_
    · have hF10 := Mm.ext.refl w.heap.size noX M
      refine W_reg ?_
      refine WL_y (Y_fa fa31_1 rfl) ?_
      refine WL_y (Y_ld1 (.bool x1.fixed) ts4 rfl (hS.bvB 0 rfl) (GCase.p1 (rep_root (k := 24) rfl hcx1))) ?_
      refine WL_y (Y_not rfl) ?_
      refine WL_y (Y_move (.bool (!x1.fixed)) rfl) ?_
      rcases Bool.eq_false_or_eq_true (!x1.fixed) with hc11 | hc11
      · replace hz := bif_ok_t hz hc11
        refine WL_gy rfl (bt hc11 rfl) (Y_fa fa31_2 rfl) ?_
        obtain ⟨v12, ev12, hv12⟩ := (GCase.p2 (rep_root (k := 24) rfl hcx1))
        refine WL_gy rfl (bt hc11 rfl) (Y_ld1 v12 ts22 rfl (hS.bvB 0 rfl) ev12) ?_
        obtain ⟨a13, c13, hv13, _⟩ := repL_shape hv12
        refine WL_gy rfl (bt hc11 rfl) (Y_lenL Try.underlying22 (tr2 hv13 rfl)) ?_
        refine WL_gy rfl (bt hc11 rfl) (Y_eql rfl rfl) ?_
        refine WL_y (Y_pick_t (.bool ((x1.ops.length : Int) == 0)) (bt hc11 rfl) rfl) ?_
        refine WL_y (Y_move (.bool ((x1.ops.length : Int) == 0)) rfl) ?_
        rcases Bool.eq_false_or_eq_true ((x1.ops.length : Int) == 0) with hc14 | hc14
        · replace hz := bif_ok_t hz hc14
          refine WL_gy rfl (bt hc14 rfl) (Y_fa fa31_5 rfl) ?_
          obtain ⟨v15, ev15, hv15⟩ := (GCase.p5 (rep_root (k := 24) rfl hcx1))
          refine WL_gy rfl (bt hc14 rfl) (Y_ld1 v15 ts27 rfl (hS.bvB 0 rfl) ev15) ?_
          obtain ⟨a16, c16, hv16, _⟩ := repL_shape hv15
          refine WL_gy rfl (bt hc14 rfl) (Y_lenL Try.underlying27 (tr2 hv16 rfl)) ?_
          refine WL_gy rfl (bt hc14 rfl) (Y_eql rfl rfl) ?_
          refine WL_y (Y_pick_t (.bool ((x1.deps.length : Int) == 0)) (bt hc14 rfl) rfl) ?_
          refine WL_y (Y_move (.bool ((x1.deps.length : Int) == 0)) rfl) ?_
          rcases Bool.eq_false_or_eq_true ((x1.deps.length : Int) == 0) with hc17 | hc17
          · replace hz := bif_ok_t hz hc17
            refine WL_gy rfl (bt hc17 rfl) (Y_fa fa31_3 rfl) ?_
            have ha18 := (GCase.p3 (rep_root (k := 24) rfl hcx1))
            refine WL_gy rfl (bt hc17 rfl) (Y_ldn ta26 rfl (hS.bvB 0 rfl) (Rep.len ha18)) ?_
            have z19 : rep M (Zr.zc (Vector Bool 6)) (Zr.zd : Vector Bool 6) := Zr.zr
            refine WL_gy rfl (bt hc17 rfl) (Y_zarr tz26 ia26) ?_
            refine WL_gy rfl (bt hc17 rfl) (Y_eqA rfl rfl eg26 ha18 z19) ?_
            refine WL_y (Y_pick_t (.bool (decide (x1.told = (Zr.zd : Vector Bool 6)))) (bt hc17 rfl) rfl) ?_
            refine WL_y (Y_move (.bool (decide (x1.told = (Zr.zd : Vector Bool 6)))) rfl) ?_
            rcases Bool.eq_false_or_eq_true (decide (x1.told = (Zr.zd : Vector Bool 6))) with hc20 | hc20
            · replace hz := bif_ok_t hz hc20
              refine WL_gy rfl (bt hc20 rfl) (Y_fa fa31_4 rfl) ?_
              have ha21 := (GCase.p4 (rep_root (k := 24) rfl hcx1))
              refine WL_gy rfl (bt hc20 rfl) (Y_ldn ta26 rfl (hS.bvB 0 rfl) (Rep.len ha21)) ?_
              have z22 : rep M (Zr.zc (Vector Bool 6)) (Zr.zd : Vector Bool 6) := Zr.zr
              refine WL_gy rfl (bt hc20 rfl) (Y_zarr tz26 ia26) ?_
              refine WL_gy rfl (bt hc20 rfl) (Y_eqA rfl rfl eg26 ha21 z22) ?_
              refine WL_y (Y_pick_t (.bool (decide (x1.known = (Zr.zd : Vector Bool 6)))) (bt hc20 rfl) rfl) ?_
              refine WL_y (Y_move (.bool (decide (x1.known = (Zr.zd : Vector Bool 6)))) rfl) ?_
              rcases Bool.eq_false_or_eq_true (decide (x1.known = (Zr.zd : Vector Bool 6))) with hc23 | hc23
              · replace hz := bif_ok_t hz hc23
                refine WL_gy rfl (bt hc23 rfl) (Y_fa fa31_6 rfl) ?_
                have ha24 := (GCase.p6 (rep_root (k := 24) rfl hcx1))
                refine WL_gy rfl (bt hc23 rfl) (Y_ldn ta28 rfl (hS.bvB 0 rfl) (Rep.len ha24)) ?_
                have z25 : rep M (Zr.zc (Vector Bool 4)) (Zr.zd : Vector Bool 4) := Zr.zr
                refine WL_gy rfl (bt hc23 rfl) (Y_zarr tz28 ia28) ?_
                refine WL_gy rfl (bt hc23 rfl) (Y_eqA rfl rfl eg28 ha24 z25) ?_
                refine WL_y (Y_pick_t (.bool (decide (x1.has = (Zr.zd : Vector Bool 4)))) (bt hc23 rfl) rfl) ?_
                refine WL_y (Y_move (.bool (decide (x1.has = (Zr.zd : Vector Bool 4)))) rfl) ?_
                rcases Bool.eq_false_or_eq_true (decide (x1.has = (Zr.zd : Vector Bool 4))) with hc26 | hc26
                · replace hz := bif_ok_t hz hc26
                  refine WL_gy rfl (bt hc26 rfl) (Y_fa fa31_7 rfl) ?_
                  have ha27 := (GCase.p7 (rep_root (k := 24) rfl hcx1))
                  refine WL_gy rfl (bt hc26 rfl) (Y_ldn ta29 rfl (hS.bvB 0 rfl) (Rep.len ha27)) ?_
                  have z28 : rep M (Zr.zc (Vector Int 4)) (Zr.zd : Vector Int 4) := Zr.zr
                  refine WL_gy rfl (bt hc26 rfl) (Y_zarr tz29 ia29) ?_
                  refine WL_gy rfl (bt hc26 rfl) (Y_eqA rfl rfl eg29 ha27 z28) ?_
                  refine WL_y (Y_pick_t (.bool (decide (x1.values = (Zr.zd : Vector Int 4)))) (bt hc26 rfl) rfl) ?_
                  refine WL_y (Y_assign (.bool (decide (x1.values = (Zr.zd : Vector Int 4)))) rfl) ?_
                  refine WL_nil (nm_then ?_)
                  exact ⟨M, (decide (x1.values = (Zr.zd : Vector Int 4))), hF10, hS, rfl, hz⟩
                · replace hz := bif_ok_f hz hc26
                  refine WL_s (j := 33) rfl (bf hc26 rfl) rfl ?_
                  refine WL_s (j := 33) rfl (bf hc26 rfl) rfl ?_
                  refine WL_s (j := 33) rfl (bf hc26 rfl) rfl ?_
                  refine WL_s (j := 33) rfl (bf hc26 rfl) rfl ?_
                  refine WL_y (Y_pick_f (.bool false) (bf hc26 rfl) rfl) ?_
                  refine WL_y (Y_assign (.bool false) rfl) ?_
                  refine WL_nil (nm_then ?_)
                  exact ⟨M, false, hF10, hS, rfl, hz⟩
              · replace hz := bif_ok_f hz hc23
                refine WL_s (j := 27) rfl (bf hc23 rfl) rfl ?_
                refine WL_s (j := 27) rfl (bf hc23 rfl) rfl ?_
                refine WL_s (j := 27) rfl (bf hc23 rfl) rfl ?_
                refine WL_s (j := 27) rfl (bf hc23 rfl) rfl ?_
                refine WL_y (Y_pick_f (.bool false) (bf hc23 rfl) rfl) ?_
                refine WL_y (Y_move (.bool false) rfl) ?_
                refine WL_s (j := 33) rfl rfl rfl ?_
                refine WL_s (j := 33) rfl rfl rfl ?_
                refine WL_s (j := 33) rfl rfl rfl ?_
                refine WL_s (j := 33) rfl rfl rfl ?_
                refine WL_y (Y_pick_f (.bool false) rfl rfl) ?_
                refine WL_y (Y_assign (.bool false) rfl) ?_
                refine WL_nil (nm_then ?_)
                exact ⟨M, false, hF10, hS, rfl, hz⟩
            · replace hz := bif_ok_f hz hc20
              refine WL_s (j := 21) rfl (bf hc20 rfl) rfl ?_
              refine WL_s (j := 21) rfl (bf hc20 rfl) rfl ?_
              refine WL_s (j := 21) rfl (bf hc20 rfl) rfl ?_
              refine WL_s (j := 21) rfl (bf hc20 rfl) rfl ?_
              refine WL_y (Y_pick_f (.bool false) (bf hc20 rfl) rfl) ?_
              refine WL_y (Y_move (.bool false) rfl) ?_
              refine WL_s (j := 27) rfl rfl rfl ?_
              refine WL_s (j := 27) rfl rfl rfl ?_
              refine WL_s (j := 27) rfl rfl rfl ?_
              refine WL_s (j := 27) rfl rfl rfl ?_
              refine WL_y (Y_pick_f (.bool false) rfl rfl) ?_
              refine WL_y (Y_move (.bool false) rfl) ?_
              refine WL_s (j := 33) rfl rfl rfl ?_
              refine WL_s (j := 33) rfl rfl rfl ?_
              refine WL_s (j := 33) rfl rfl rfl ?_
              refine WL_s (j := 33) rfl rfl rfl ?_
              refine WL_y (Y_pick_f (.bool false) rfl rfl) ?_
              refine WL_y (Y_assign (.bool false) rfl) ?_
              refine WL_nil (nm_then ?_)
              exact ⟨M, false, hF10, hS, rfl, hz⟩
          · replace hz := bif_ok_f hz hc17
            refine WL_s (j := 15) rfl (bf hc17 rfl) rfl ?_
            refine WL_s (j := 15) rfl (bf hc17 rfl) rfl ?_
            refine WL_s (j := 15) rfl (bf hc17 rfl) rfl ?_
            refine WL_s (j := 15) rfl (bf hc17 rfl) rfl ?_
            refine WL_y (Y_pick_f (.bool false) (bf hc17 rfl) rfl) ?_
            refine WL_y (Y_move (.bool false) rfl) ?_
            refine WL_s (j := 21) rfl rfl rfl ?_
            refine WL_s (j := 21) rfl rfl rfl ?_
            refine WL_s (j := 21) rfl rfl rfl ?_
            refine WL_s (j := 21) rfl rfl rfl ?_
            refine WL_y (Y_pick_f (.bool false) rfl rfl) ?_
            refine WL_y (Y_move (.bool false) rfl) ?_
            refine WL_s (j := 27) rfl rfl rfl ?_
            refine WL_s (j := 27) rfl rfl rfl ?_
            refine WL_s (j := 27) rfl rfl rfl ?_
            refine WL_s (j := 27) rfl rfl rfl ?_
            refine WL_y (Y_pick_f (.bool false) rfl rfl) ?_
            refine WL_y (Y_move (.bool false) rfl) ?_
            refine WL_s (j := 33) rfl rfl rfl ?_
            refine WL_s (j := 33) rfl rfl rfl ?_
            refine WL_s (j := 33) rfl rfl rfl ?_
            refine WL_s (j := 33) rfl rfl rfl ?_
            refine WL_y (Y_pick_f (.bool false) rfl rfl) ?_
            refine WL_y (Y_assign (.bool false) rfl) ?_
            refine WL_nil (nm_then ?_)
            exact ⟨M, false, hF10, hS, rfl, hz⟩
        · replace hz := bif_ok_f hz hc14
          refine WL_s (j := 9) rfl (bf hc14 rfl) rfl ?_
          refine WL_s (j := 9) rfl (bf hc14 rfl) rfl ?_
          refine WL_s (j := 9) rfl (bf hc14 rfl) rfl ?_
          refine WL_s (j := 9) rfl (bf hc14 rfl) rfl ?_
          refine WL_y (Y_pick_f (.bool false) (bf hc14 rfl) rfl) ?_
          refine WL_y (Y_move (.bool false) rfl) ?_
          refine WL_s (j := 15) rfl rfl rfl ?_
          refine WL_s (j := 15) rfl rfl rfl ?_
          refine WL_s (j := 15) rfl rfl rfl ?_
          refine WL_s (j := 15) rfl rfl rfl ?_
          refine WL_y (Y_pick_f (.bool false) rfl rfl) ?_
          refine WL_y (Y_move (.bool false) rfl) ?_
          refine WL_s (j := 21) rfl rfl rfl ?_
          refine WL_s (j := 21) rfl rfl rfl ?_
          refine WL_s (j := 21) rfl rfl rfl ?_
          refine WL_s (j := 21) rfl rfl rfl ?_
          refine WL_y (Y_pick_f (.bool false) rfl rfl) ?_
          refine WL_y (Y_move (.bool false) rfl) ?_
          refine WL_s (j := 27) rfl rfl rfl ?_
          refine WL_s (j := 27) rfl rfl rfl ?_
          refine WL_s (j := 27) rfl rfl rfl ?_
          refine WL_s (j := 27) rfl rfl rfl ?_
          refine WL_y (Y_pick_f (.bool false) rfl rfl) ?_
          refine WL_y (Y_move (.bool false) rfl) ?_
          refine WL_s (j := 33) rfl rfl rfl ?_
          refine WL_s (j := 33) rfl rfl rfl ?_
          refine WL_s (j := 33) rfl rfl rfl ?_
          refine WL_s (j := 33) rfl rfl rfl ?_
          refine WL_y (Y_pick_f (.bool false) rfl rfl) ?_
          refine WL_y (Y_assign (.bool false) rfl) ?_
          refine WL_nil (nm_then ?_)
          exact ⟨M, false, hF10, hS, rfl, hz⟩
      · replace hz := bif_ok_f hz hc11
        refine WL_s (j := 3) rfl (bf hc11 rfl) rfl ?_
        refine WL_s (j := 3) rfl (bf hc11 rfl) rfl ?_
        refine WL_s (j := 3) rfl (bf hc11 rfl) rfl ?_
        refine WL_s (j := 3) rfl (bf hc11 rfl) rfl ?_
        refine WL_y (Y_pick_f (.bool false) (bf hc11 rfl) rfl) ?_
        refine WL_y (Y_move (.bool false) rfl) ?_
        refine WL_s (j := 9) rfl rfl rfl ?_
        refine WL_s (j := 9) rfl rfl rfl ?_
        refine WL_s (j := 9) rfl rfl rfl ?_
        refine WL_s (j := 9) rfl rfl rfl ?_
        refine WL_y (Y_pick_f (.bool false) rfl rfl) ?_
        refine WL_y (Y_move (.bool false) rfl) ?_
        refine WL_s (j := 15) rfl rfl rfl ?_
        refine WL_s (j := 15) rfl rfl rfl ?_
        refine WL_s (j := 15) rfl rfl rfl ?_
        refine WL_s (j := 15) rfl rfl rfl ?_
        refine WL_y (Y_pick_f (.bool false) rfl rfl) ?_
        refine WL_y (Y_move (.bool false) rfl) ?_
        refine WL_s (j := 21) rfl rfl rfl ?_
        refine WL_s (j := 21) rfl rfl rfl ?_
        refine WL_s (j := 21) rfl rfl rfl ?_
        refine WL_s (j := 21) rfl rfl rfl ?_
        refine WL_y (Y_pick_f (.bool false) rfl rfl) ?_
        refine WL_y (Y_move (.bool false) rfl) ?_
        refine WL_s (j := 27) rfl rfl rfl ?_
        refine WL_s (j := 27) rfl rfl rfl ?_
        refine WL_s (j := 27) rfl rfl rfl ?_
        refine WL_s (j := 27) rfl rfl rfl ?_
        refine WL_y (Y_pick_f (.bool false) rfl rfl) ?_
        refine WL_y (Y_move (.bool false) rfl) ?_
        refine WL_s (j := 33) rfl rfl rfl ?_
        refine WL_s (j := 33) rfl rfl rfl ?_
        refine WL_s (j := 33) rfl rfl rfl ?_
        refine WL_s (j := 33) rfl rfl rfl ?_
        refine WL_y (Y_pick_f (.bool false) rfl rfl) ?_
        refine WL_y (Y_assign (.bool false) rfl) ?_
        refine WL_nil (nm_then ?_)
        exact ⟨M, false, hF10, hS, rfl, hz⟩
    · rintro T7 w5 ⟨M6, c8, hx9, hS, hT7_2, hz⟩
      replace hcx1 := Rep.mono hx9.1 hcx1
      replace hE := Mm.ext.trans hE hx9
      rw [postGood_j1] at hz
      cases hz
      exact W_ret (rt_then (R_t1 rfl hT7_2 ⟨rfl, (St.dropB hS hb3).kept⟩))
  · replace hz := bif_ok_f hz hc4
    refine W_skip (nm_then ?_)
    refine W_seqJ (fun T' w' => ∃ M30 c32, Mm.ext w.heap.size noX M M30 ∧ St w noX M30 [.box b3 cx1 31] w' ∧ T' 2 = .bool c32 ∧ postGood_j2 c32 = some r) ?_ ?_
    · have hF34 := Mm.ext.refl w.heap.size noX M
      refine W_reg ?_
      refine WL_y (Y_fa fa31_2 rfl) ?_
      obtain ⟨v35, ev35, hv35⟩ := (GCase.p2 (rep_root (k := 24) rfl hcx1))
      refine WL_y (Y_ld1 v35 ts22 rfl (hS.bvB 0 rfl) ev35) ?_
      obtain ⟨r38, hr37, hz⟩ := bind_ok hz
      replace hr37 := Option.some.inj hr37
      refine WL_c (O_val (vs := [v35]) (v := .bool r38) cb38 (args1 rfl) hS (hr37 ▸ (c_goodOps hS.agree hv35)) ?_)
      intro w36 hS
      refine WL_y (Y_move (.bool r38) rfl) ?_
      rcases Bool.eq_false_or_eq_true r38 with hc39 | hc39
      · replace hz := bif_ok_t hz hc39
        refine WL_gy rfl (bt hc39 rfl) (Y_fa fa31_5 rfl) ?_
        obtain ⟨v40, ev40, hv40⟩ := (GCase.p5 (rep_root (k := 24) rfl hcx1))
        refine WL_gy rfl (bt hc39 rfl) (Y_ld1 v40 ts27 rfl (hS.bvB 0 rfl) ev40) ?_
        obtain ⟨r43, hr42, hz⟩ := bind_ok hz
        replace hr42 := Option.some.inj hr42
        refine WL_g rfl (bt hc39 rfl) (O_val (vs := [v40]) (v := .bool r43) cb62 (args1 rfl) hS (hr42 ▸ (c_rising hS.agree hv40)) ?_)
        intro w41 hS
        refine WL_y (Y_pick_t (.bool r43) (bt hc39 rfl) rfl) ?_
        refine WL_y (Y_assign (.bool r43) rfl) ?_
        refine WL_nil (nm_then ?_)
        exact ⟨M, r43, hF34, hS, rfl, hz⟩
      · replace hz := bif_ok_f hz hc39
        refine WL_s (j := 3) rfl (bf hc39 rfl) rfl ?_
        refine WL_s (j := 3) rfl (bf hc39 rfl) rfl ?_
        refine WL_s (j := 3) rfl (bf hc39 rfl) rfl ?_
        refine WL_y (Y_pick_f (.bool false) (bf hc39 rfl) rfl) ?_
        refine WL_y (Y_assign (.bool false) rfl) ?_
        refine WL_nil (nm_then ?_)
        exact ⟨M, false, hF34, hS, rfl, hz⟩
    · rintro T31 w29 ⟨M30, c32, hx33, hS, hT31_2, hz⟩
      replace hcx1 := Rep.mono hx33.1 hcx1
      replace hE := Mm.ext.trans hE hx33
      rw [postGood_j2] at hz
      cases hz
      exact W_ret (R_t1 rfl hT31_2 ⟨rfl, (St.dropB hS hb3).kept⟩)

def sameOps_l1 (x1 : List GOp) (x2 : List GOp) : Nat → Int → Option Bool
  | 0, _ => none
  | n + 1, y10 =>
    (bif decide (y10 < (x1.length : Int)) then
    (idx x1 y10).bind fun x17 =>
    (idx x2 y10).bind fun x20 =>
    (bif !decide (x17 = x20) then
    some false
    else
    (sameOps_l1 x1 x2 n) (IntKind.wrap .i64 (y10 + 1)))
    else
    some true)

def sameOpsD (fu : Nat) (x1 : List GOp) (x2 : List GOp) : Option Bool :=
    (bif (x1.length : Int) != (x2.length : Int) then
    some false
    else
    sameOps_l1 x1 x2 fu 0)

set_option maxRecDepth 100000 in
set_option maxHeartbeats 4000000 in
theorem sameOps_ok {M : Mm} {w : World} {vx1 : Value} {vx2 : Value} {x1 : List GOp} {x2 : List GOp} {fu : Nat} {r : Bool} (hA : Agree M w) (hvx1 : repL M vx1 x1) (hvx2 : repL M vx2 x2) (hz : sameOpsD fu x1 x2 = some r) :
    Calls Try.prog 67 #[vx1, vx2] w (GivesV w (.bool r)) := by
  refine calls_W Try.func67 rfl 26 rfl rfl (by kernel_rfl) fun T hT => ?_
  have hT_0 : T 0 = vx1 := hT 0
  have hT_1 : T 1 = vx2 := hT 1
  clear hT
  have hE := Mm.ext.refl w.heap.size noX M
  have hS : St w noX M [] w := St.start hA
  rw [sameOpsD] at hz
  refine W_seq ?_
  refine W_reg ?_
  refine WL_y (Y_assign (.bool false) rfl) ?_
  refine WL_nil (nm_then ?_)
  refine W_seq ?_
  refine W_seq ?_
  refine W_reg ?_
  refine WL_y (Y_move (vx1) hT_0) ?_
  obtain ⟨a3, c3, hv3, _⟩ := repL_shape hvx1
  refine WL_y (Y_lenL Try.underlying22 (tr2 hv3 rfl)) ?_
  refine WL_y (Y_move (vx2) hT_1) ?_
  obtain ⟨a4, c4, hv4, _⟩ := repL_shape hvx2
  refine WL_y (Y_lenL Try.underlying22 (tr2 hv4 rfl)) ?_
  refine WL_y (Y_neq rfl rfl) ?_
  refine WL_nil (nm_then ?_)
  refine W_cond rfl (fun hc5 => ?_) (fun hc5 => ?_)
  · replace hz := bif_ok_t hz hc5
    refine W_seq ?_
    refine W_reg ?_
    refine WL_y (Y_assign (.bool false) rfl) ?_
    refine WL_nil (nm_then ?_)
    cases hz
    exact W_ret (rt_then (R_t1 rfl rfl ⟨rfl, hS.kept⟩))
  · replace hz := bif_ok_f hz hc5
    refine W_skip (nm_then ?_)
    refine W_seq ?_
    refine W_seq ?_
    refine W_reg ?_
    refine WL_y (Y_move (vx1) hT_0) ?_
    obtain ⟨a6, c6, hv6, _⟩ := repL_shape hvx1
    refine WL_y (Y_lenL Try.underlying22 (tr2 hv6 rfl)) ?_
    refine WL_y (Y_move (.int .i64 0) rfl) ?_
    refine WL_nil (nm_then ?_)
    refine W_block ?_
    refine W_loop (fun k12 T' w' => ∃ M8 y10, Mm.ext w.heap.size noX M M8 ∧ St w noX M8 [] w' ∧ T' 0 = vx1 ∧ T' 1 = vx2 ∧ T' 12 = .int .i64 (x1.length : Int) ∧ T' 13 = .int .i64 y10 ∧ sameOps_l1 x1 x2 k12 y10 = some r) fu ?_ ?_ ?_
    · exact ⟨M, (0 : Int), (Mm.ext.refl _ _ _), hS, hT_0, hT_1, rfl, rfl, hz⟩
    · rintro T' w' ⟨_, _, _, _, _, _, _, _, hz⟩
      rw [sameOps_l1] at hz
      cases hz
    · intro k12
      rintro T9 w7 ⟨M8, y10, hx14, hS, hT9_0, hT9_1, hT9_12, hT9_13, hz⟩
      replace hvx1 := repL.mono hx14.1 hvx1
      replace hvx2 := repL.mono hx14.1 hvx2
      replace hE := Mm.ext.trans hE hx14
      have hF13 := hx14
      rw [sameOps_l1] at hz
      obtain ⟨rec11, hrec11⟩ : ∃ f, f = sameOps_l1 x1 x2 k12 := ⟨_, rfl⟩
      rw [← hrec11] at hz
      refine W_seq ?_
      refine W_reg ?_
      refine WL_y (Y_lss hT9_13 hT9_12) ?_
      refine WL_nil (nm_then ?_)
      refine W_seq ?_
      refine W_cond rfl (fun hc15 => ?_) (fun hc15 => ?_)
      · replace hz := bif_ok_t hz hc15
        refine W_skip (nm_then ?_)
        refine W_seq ?_
        refine W_block ?_
        refine W_seq ?_
        refine W_reg ?_
        refine WL_y (Y_move (.int .i64 y10) hT9_13) ?_
        refine WL_y (Y_assign (.int .i64 y10) rfl) ?_
        refine WL_nil (nm_then ?_)
        refine W_seq ?_
        refine W_drawq mixed (by kernel_rfl) hS ?_
        refine WQ_y (Y_move (vx1) hT9_0) ?_
        refine WQ_y (Y_move (.int .i64 y10) rfl) ?_
        obtain ⟨x17, hx16, hz⟩ := bind_ok hz
        obtain ⟨b16, o16, c16, p16, hv16, hi16, hj16, hM16, hr16⟩ := repL_at hvx1 hx16
        replace hr16 : rep _ (sl p16 (o16 + Int.toNat y10 * 3) 3) x17 := hr16
        refine WQ_y (Y_ixL il22 rfl hv16 rfl hi16 hj16) ?_
        have ha18 := hr16
        refine WQ_y (Y_ldn ta78 rfl (bvMS hM16) (Rep.len ha18)) ?_
        refine WQ_y (Y_move (vx2) hT9_1) ?_
        refine WQ_y (Y_move (.int .i64 y10) rfl) ?_
        obtain ⟨x20, hx19, hz⟩ := bind_ok hz
        obtain ⟨b19, o19, c19, p19, hv19, hi19, hj19, hM19, hr19⟩ := repL_at hvx2 hx19
        replace hr19 : rep _ (sl p19 (o19 + Int.toNat y10 * 3) 3) x20 := hr19
        refine WQ_y (Y_ixL il22 rfl hv19 rfl hi19 hj19) ?_
        have ha21 := hr19
        refine WQ_y (Y_ldn ta78 rfl (bvMS hM19) (Rep.len ha21)) ?_
        refine WQ_y (Y_neA rfl rfl eg78 ha18 ha21) ?_
        refine WQ_nil ?_
        intro w22 hS
        refine (nm_then ?_)
        refine W_cond rfl (fun hc23 => ?_) (fun hc23 => ?_)
        · replace hz := bif_ok_t hz hc23
          refine W_seq ?_
          refine W_reg ?_
          refine WL_y (Y_assign (.bool false) rfl) ?_
          refine WL_nil (nm_then ?_)
          cases hz
          exact W_ret (rt_blk (rt_then (rt_then (rt_blk (rt_then (R_t1 rfl rfl ⟨rfl, hS.kept⟩))))))
        · replace hz := bif_ok_f hz hc23
          refine W_skip (nm_blk ?_)
          refine (nm_then ?_)
          refine W_reg ?_
          refine WL_y (Y_add hT9_13 rfl) ?_
          refine WL_y (Y_move (.int .i64 (IntKind.wrap .i64 (y10 + 1))) rfl) ?_
          refine WL_nil (nm_then ?_)
          exact ⟨M8, (IntKind.wrap .i64 (y10 + 1)), hF13, hS, hT9_0, hT9_1, hT9_12, rfl, (by rw [← hrec11]; exact hz)⟩
      · replace hz := bif_ok_f hz hc15
        refine W_exit ?_
        refine ex_then ?_
        refine ex_then ?_
        refine ex_hit ?_
        refine (nm_then ?_)
        refine W_seq ?_
        refine W_reg ?_
        refine WL_y (Y_assign (.bool true) rfl) ?_
        refine WL_nil (nm_then ?_)
        cases hz
        exact W_ret (R_t1 rfl rfl ⟨rfl, hS.kept⟩)

def whole_j1 (y10 : Int) (rec11 : Int → Option Bool) : Option Bool :=
    rec11 (IntKind.wrap .i64 (y10 + 1))

def whole_j2 (y10 : Int) (rec11 : Int → Option Bool) (c32 : Bool) : Option Bool :=
    (bif c32 then
    some false
    else
    whole_j1 y10 rec11)

def whole_l1 (x1 : GCase) (x2 : Int) : Nat → Int → Option Bool
  | 0, _ => none
  | n + 1, y10 =>
    (bif decide (y10 < (x1.ops.length : Int)) then
    (idx x1.ops y10).bind fun x22 =>
    (some x22).bind fun d28 =>
    (some (shardZ d28.key)).bind fun r38 =>
    (bif r38 == x2 then
    (inR y10 4).bind fun _ =>
    (idxV x1.has y10).bind fun x42 =>
    whole_j2 y10 (whole_l1 x1 x2 n) (!x42)
    else
    whole_j2 y10 (whole_l1 x1 x2 n) false)
    else
    some true)

def wholeD (fu : Nat) (x1 : GCase) (x2 : Int) : Option Bool :=
    whole_l1 x1 x2 fu 0

set_option maxRecDepth 100000 in
set_option maxHeartbeats 4000000 in
theorem whole_ok {M : Mm} {w : World} {cx1 : List Value} {x1 : GCase} {x2 : Int} {fu : Nat} {r : Bool} (hA : Agree M w) (hcx1 : rep M cx1 x1) (hz : wholeD fu x1 x2 = some r) :
    Calls Try.prog 49 #[.agg cx1.toArray, .int .i64 x2] w (GivesV w (.bool r)) := by
  refine calls_W Try.func49 rfl 28 rfl rfl (by kernel_rfl) fun T hT => ?_
  have hT_0 : T 0 = .agg cx1.toArray := hT 0
  have hT_1 : T 1 = .int .i64 x2 := hT 1
  clear hT
  have hE := Mm.ext.refl w.heap.size noX M
  have hS : St w noX M [] w := St.start hA
  rw [wholeD] at hz
  refine W_seq ?_
  refine W_reg ?_
  refine WL_c (O_box (v := .agg cx1.toArray) (cs := cx1) hT_0 rfl hS ?_)
  intro b4 w3 hb4 hS
  replace hS : St w noX M [.box b4 cx1 31] w3 := hS
  refine WL_y (Y_assign (.bool false) rfl) ?_
  refine WL_nil (nm_then ?_)
  refine W_seq ?_
  refine W_seq ?_
  refine W_reg ?_
  refine WL_y (Y_fa fa31_2 rfl) ?_
  obtain ⟨v5, ev5, hv5⟩ := (GCase.p2 (rep_root (k := 24) rfl hcx1))
  refine WL_y (Y_ld1 v5 ts22 rfl (hS.bvB 0 rfl) ev5) ?_
  obtain ⟨a6, c6, hv6, _⟩ := repL_shape hv5
  refine WL_y (Y_lenL Try.underlying22 (tr2 hv6 rfl)) ?_
  refine WL_y (Y_move (.int .i64 0) rfl) ?_
  refine WL_nil (nm_then ?_)
  refine W_block ?_
  refine W_loop (fun k12 T' w' => ∃ M8 y10, Mm.ext w.heap.size noX M M8 ∧ St w noX M8 [.box b4 cx1 31] w' ∧ T' 1 = .int .i64 x2 ∧ T' 2 = .pointer (some ⟨b4, 0, none⟩) ∧ T' 8 = v5 ∧ T' 9 = .int .i64 (x1.ops.length : Int) ∧ T' 10 = .int .i64 y10 ∧ whole_l1 x1 x2 k12 y10 = some r) fu ?_ ?_ ?_
  · exact ⟨M, (0 : Int), (Mm.ext.refl _ _ _), hS, hT_1, rfl, rfl, rfl, rfl, hz⟩
  · rintro T' w' ⟨_, _, _, _, _, _, _, _, _, hz⟩
    rw [whole_l1] at hz
    cases hz
  · intro k12
    rintro T9 w7 ⟨M8, y10, hx14, hS, hT9_1, hT9_2, hT9_8, hT9_9, hT9_10, hz⟩
    replace hcx1 := Rep.mono hx14.1 hcx1
    replace hv5 := repL.mono hx14.1 hv5
    replace hE := Mm.ext.trans hE hx14
    have hF13 := hx14
    rw [whole_l1] at hz
    obtain ⟨rec11, hrec11⟩ : ∃ f, f = whole_l1 x1 x2 k12 := ⟨_, rfl⟩
    rw [← hrec11] at hz
    refine W_seq ?_
    refine W_reg ?_
    refine WL_y (Y_lss hT9_10 hT9_9) ?_
    refine WL_nil (nm_then ?_)
    refine W_seq ?_
    refine W_cond rfl (fun hc15 => ?_) (fun hc15 => ?_)
    · replace hz := bif_ok_t hz hc15
      refine W_skip (nm_then ?_)
      refine W_seqJ (fun T' w' => ∃ M17, Mm.ext w.heap.size noX M8 M17 ∧ St w noX M17 [.box b4 cx1 31] w' ∧ T' 1 = .int .i64 x2 ∧ T' 2 = .pointer (some ⟨b4, 0, none⟩) ∧ T' 8 = v5 ∧ T' 9 = .int .i64 (x1.ops.length : Int) ∧ T' 10 = .int .i64 y10 ∧ whole_j1 y10 rec11 = some r) ?_ ?_
      · have hF20 := Mm.ext.refl w.heap.size noX M8
        refine W_block ?_
        refine W_seq ?_
        refine W_reg ?_
        refine WL_y (Y_move (.int .i64 y10) hT9_10) ?_
        obtain ⟨x22, hx21, hz⟩ := bind_ok hz
        obtain ⟨b21, o21, c21, p21, hv21, hi21, hj21, hM21, hr21⟩ := repL_at hv5 hx21
        replace hr21 : rep _ (sl p21 (o21 + Int.toNat y10 * 3) 3) x22 := hr21
        refine WL_y (Y_ixL il22 hT9_8 hv21 hT9_10 hi21 hj21) ?_
        have ha23 := hr21
        refine WL_y (Y_ldn ta78 rfl (hS.bvM hM21) (Rep.len ha23)) ?_
        refine WL_c (O_alloc tz78 hS ?_)
        intro b25 w24 hb25 hS
        replace hS : St w noX M8 [.box b25 (Zr.zc GOp) 78, .box b4 cx1 31] w24 := hS
        have zb25 : rep M8 (Zr.zc GOp) (Zr.zd : GOp) := Zr.zr
        refine WL_y (Y_assign (.int .i64 y10) rfl) ?_
        have hw27 : ((sl p21 (o21 + Int.toNat y10 * 3) 3) : List Value).length = 3 := Rep.len ha23
        have hl27 : ((Zr.zc GOp)).length = 3 := Rep.len zb25
        obtain ⟨d28, hd27, hz⟩ := bind_ok hz
        have hb27 : rep M8 (pt (Zr.zc GOp) (0) (sl p21 (o21 + Int.toNat y10 * 3) 3)) d28 := rep_eq (rep_whole (k := 3) (by rw [pt_length (by omega)]; exact hl27) (rep_leaf rfl ha23 (by omega))) hd27
        generalize hg27 : (pt (Zr.zc GOp) (0) (sl p21 (o21 + Int.toNat y10 * 3) 3)) = cs27 at hb27
        refine WL_c (O_st (j := 0) (v := .agg (sl p21 (o21 + Int.toNat y10 * 3) 3).toArray) (ws := (sl p21 (o21 + Int.toNat y10 * 3) 3)) hS rfl (by kernel_rfl) rfl rfl rfl hw27 (Rep.one ha23) (by omega) ?_)
        rw [hg27]
        clear hg27
        intro w26 hS
        replace hS : St w noX M8 [.box b25 cs27 78, .box b4 cx1 31] w26 := hS
        refine WL_nil (nm_then ?_)
        refine W_seqJ (fun T' w' => ∃ M30 c32, Mm.ext w.heap.size noX M8 M30 ∧ St w noX M30 [.box b25 cs27 78, .box b4 cx1 31] w' ∧ T' 1 = .int .i64 x2 ∧ T' 2 = .pointer (some ⟨b4, 0, none⟩) ∧ T' 8 = v5 ∧ T' 9 = .int .i64 (x1.ops.length : Int) ∧ T' 10 = .int .i64 y10 ∧ T' 26 = .bool c32 ∧ whole_j2 y10 rec11 c32 = some r) ?_ ?_
        · have hF35 := Mm.ext.refl w.heap.size noX M8
          refine W_reg ?_
          refine WL_y (Y_fa fa78_1 rfl) ?_
          refine WL_y (Y_ld1 (.int .i64 d28.key) ts3 rfl (hS.bvB 0 rfl) (GOp.p1 (rep_root (k := 3) rfl hb27))) ?_
          obtain ⟨r38, hr37, hz⟩ := bind_ok hz
          replace hr37 := Option.some.inj hr37
          refine WL_c (O_val (vs := [.int .i64 d28.key]) (v := .int .i64 r38) cb48 (args1 rfl) hS (hr37 ▸ (c_shard)) ?_)
          intro w36 hS
          refine WL_y (Y_move (.int .i64 x2) hT9_1) ?_
          refine WL_y (Y_eql rfl rfl) ?_
          refine WL_y (Y_move (.bool (r38 == x2)) rfl) ?_
          rcases Bool.eq_false_or_eq_true (r38 == x2) with hc39 | hc39
          · replace hz := bif_ok_t hz hc39
            refine WL_gy rfl (bt hc39 rfl) (Y_move (.int .i64 y10) rfl) ?_
            refine WL_gy rfl (bt hc39 rfl) (Y_fa fa31_6 hT9_2) ?_
            obtain ⟨u40, hx41, hz⟩ := bind_ok hz
            obtain ⟨hx41a, hx41b⟩ := inR_some hx41
            refine WL_gy rfl (bt hc39 rfl) (Y_ixA ia28 rfl rfl hx41a hx41b) ?_
            obtain ⟨x42, hx43, hz⟩ := bind_ok hz
            refine WL_gy rfl (bt hc39 rfl) (Y_ld1 (.bool x42) ts4 rfl (hS.bvB 1 rfl) (vp (k := 1) rfl rfl (GCase.p6 (rep_root (k := 24) rfl hcx1)) hx43)) ?_
            refine WL_gy rfl (bt hc39 rfl) (Y_not rfl) ?_
            refine WL_y (Y_pick_t (.bool (!x42)) (bt hc39 rfl) rfl) ?_
            refine WL_nil (nm_then ?_)
            exact ⟨M8, (!x42), hF35, hS, hT9_1, hT9_2, hT9_8, hT9_9, hT9_10, rfl, hz⟩
          · replace hz := bif_ok_f hz hc39
            refine WL_s (j := 5) rfl (bf hc39 rfl) rfl ?_
            refine WL_s (j := 5) rfl (bf hc39 rfl) rfl ?_
            refine WL_s (j := 5) rfl (bf hc39 rfl) rfl ?_
            refine WL_s (j := 5) rfl (bf hc39 rfl) rfl ?_
            refine WL_s (j := 5) rfl (bf hc39 rfl) rfl ?_
            refine WL_y (Y_pick_f (.bool false) (bf hc39 rfl) rfl) ?_
            refine WL_nil (nm_then ?_)
            exact ⟨M8, false, hF35, hS, hT9_1, hT9_2, hT9_8, hT9_9, hT9_10, rfl, hz⟩
        · rintro T31 w29 ⟨M30, c32, hx33, hS, hT31_1, hT31_2, hT31_8, hT31_9, hT31_10, hT31_26, hz⟩
          replace hcx1 := Rep.mono hx33.1 hcx1
          replace hv5 := repL.mono hx33.1 hv5
          replace hb27 := Rep.mono hx33.1 hb27
          replace hE := Mm.ext.trans hE hx33
          replace hF13 := Mm.ext.trans hF13 hx33
          replace hF20 := Mm.ext.trans hF20 hx33
          rw [whole_j2] at hz
          refine W_cond hT31_26 (fun hc34 => ?_) (fun hc34 => ?_)
          · replace hz := bif_ok_t hz hc34
            refine W_seq ?_
            refine W_reg ?_
            refine WL_y (Y_assign (.bool false) rfl) ?_
            refine WL_nil (nm_then ?_)
            cases hz
            exact W_ret (rt_blk (rt_then (rt_then (rt_blk (rt_then (R_t1 rfl rfl ⟨rfl, (St.dropB (St.dropB hS hb25) hb4).kept⟩))))))
          · replace hz := bif_ok_f hz hc34
            refine W_skip (nm_blk ?_)
            refine (nm_then ?_)
            exact ⟨M30, hF20, (St.dropB hS hb25), hT31_1, hT31_2, hT31_8, hT31_9, hT31_10, hz⟩
      · rintro T18 w16 ⟨M17, hx19, hS, hT18_1, hT18_2, hT18_8, hT18_9, hT18_10, hz⟩
        replace hcx1 := Rep.mono hx19.1 hcx1
        replace hv5 := repL.mono hx19.1 hv5
        replace hE := Mm.ext.trans hE hx19
        replace hF13 := Mm.ext.trans hF13 hx19
        rw [whole_j1] at hz
        refine W_reg ?_
        refine WL_y (Y_add hT18_10 rfl) ?_
        refine WL_y (Y_move (.int .i64 (IntKind.wrap .i64 (y10 + 1))) rfl) ?_
        refine WL_nil (nm_then ?_)
        exact ⟨M17, (IntKind.wrap .i64 (y10 + 1)), hF13, hS, hT18_1, hT18_2, hT18_8, hT18_9, rfl, (by rw [← hrec11]; exact hz)⟩
    · replace hz := bif_ok_f hz hc15
      refine W_exit ?_
      refine ex_then ?_
      refine ex_then ?_
      refine ex_hit ?_
      refine (nm_then ?_)
      refine W_seq ?_
      refine W_reg ?_
      refine WL_y (Y_assign (.bool true) rfl) ?_
      refine WL_nil (nm_then ?_)
      cases hz
      exact W_ret (R_t1 rfl rfl ⟨rfl, (St.dropB hS hb4).kept⟩)

def again_j2 (y15 : Int) (rec16 : (List GFrame) → Int → Option (List GFrame)) (l24 : List GFrame) : Option (List GFrame) :=
    rec16 l24 (IntKind.wrap .i64 (y15 + 1))

def again_j4 (x1 : GCase) (x2 : Int) (l13 : List GFrame) (y15 : Int) (rec16 : (List GFrame) → Int → Option (List GFrame)) (c57 : Bool) : Option (List GFrame) :=
    (bif c57 then
    (some ({ kind := 3, node := y15, id := x2, ops := x1.ops, deps := x1.deps, at_ := Zr.zd, vals := Zr.zd } : GFrame)).bind fun d63 =>
    (app l13 ([d63] : List GFrame)).bind fun l68 =>
    again_j2 y15 rec16 l68
    else
    again_j2 y15 rec16 l13)

def again_j3 (fu : Nat) (x1 : GCase) (x2 : Int) (l13 : List GFrame) (y15 : Int) (rec16 : (List GFrame) → Int → Option (List GFrame)) (r38 : Bool) (c43 : Bool) : Option (List GFrame) :=
    (bif c43 then
    (some ({ kind := 1, node := y15, id := x2, ops := x1.ops, deps := Zr.zd, at_ := Zr.zd, vals := Zr.zd } : GFrame)).bind fun d48 =>
    (app l13 ([d48] : List GFrame)).bind fun l53 =>
    again_j2 y15 rec16 l53
    else
    (bif x1.fixed then
    (inR y15 6).bind fun _ =>
    (idxV x1.known y15).bind fun x76 =>
    (bif !x76 then
    again_j4 x1 x2 l13 y15 rec16 true
    else
    (bif r38 then
    (some (ofZ y15)).bind fun r83 =>
    (wholeD fu x1 r83).bind fun r87 =>
    again_j4 x1 x2 l13 y15 rec16 (!r87)
    else
    again_j4 x1 x2 l13 y15 rec16 false))
    else
    again_j4 x1 x2 l13 y15 rec16 false))

def again_l1 (fu : Nat) (x1 : GCase) (x2 : Int) : Nat → (List GFrame) → Int → Option (List GFrame)
  | 0, _, _ => none
  | n + 1, l13, y15 =>
    (bif decide (y15 < 6) then
    (some (ofZ y15)).bind fun r34 =>
    (some (touchesZ x1.ops r34)).bind fun r38 =>
    (bif !x1.fixed then
    (bif r38 then
    (inR y15 6).bind fun _ =>
    (idxV x1.told y15).bind fun x94 =>
    again_j3 fu x1 x2 l13 y15 (again_l1 fu x1 x2 n) r38 (!x94)
    else
    again_j3 fu x1 x2 l13 y15 (again_l1 fu x1 x2 n) r38 false)
    else
    again_j3 fu x1 x2 l13 y15 (again_l1 fu x1 x2 n) r38 false)
    else
    some l13)

def again_j1 (fu : Nat) (x1 : GCase) (x2 : Int) : Option (List GFrame) :=
    again_l1 fu x1 x2 fu ([] : List GFrame) 0

def again_j5 (fu : Nat) (x1 : GCase) (x2 : Int) (c100 : Bool) : Option (List GFrame) :=
    (bif c100 then
    some []
    else
    again_j1 fu x1 x2)

def againD (fu : Nat) (x1 : GCase) (x2 : Int) : Option (List GFrame) :=
    (postGoodD fu x1).bind fun r107 =>
    (bif !r107 then
    again_j5 fu x1 x2 true
    else
    (bif !x1.begun then
    again_j5 fu x1 x2 true
    else
    (bif decide (x2 < 0) then
    again_j5 fu x1 x2 true
    else
    (bif decide (x2 ≥ 32) then
    again_j5 fu x1 x2 true
    else
    (some (hasZ x1.deps x2)).bind fun r115 =>
    again_j5 fu x1 x2 r115))))

set_option maxRecDepth 100000 in
set_option maxHeartbeats 4000000 in
theorem again_ok {M : Mm} {w : World} {cx1 : List Value} {x1 : GCase} {x2 : Int} {fu : Nat} {r : (List GFrame)} (hA : Agree M w) (hcx1 : rep M cx1 x1) (hz : againD fu x1 x2 = some r) :
    Calls Try.prog 40 #[.agg cx1.toArray, .int .i64 x2] w (Gives M w (fun M' u => repL M' u r)) := by
  refine calls_W Try.func40 rfl 92 rfl rfl (by kernel_rfl) fun T hT => ?_
  have hT_0 : T 0 = .agg cx1.toArray := hT 0
  have hT_1 : T 1 = .int .i64 x2 := hT 1
  clear hT
  have hE := Mm.ext.refl w.heap.size noX M
  have hS : St w noX M [] w := St.start hA
  rw [againD] at hz
  refine W_seq ?_
  refine W_reg ?_
  refine WL_c (O_box (v := .agg cx1.toArray) (cs := cx1) hT_0 rfl hS ?_)
  intro b4 w3 hb4 hS
  replace hS : St w noX M [.box b4 cx1 31] w3 := hS
  refine WL_y (Y_assign ((.slice none 0 0)) rfl) ?_
  refine WL_nil (nm_then ?_)
  refine W_seq ?_
  refine W_reg ?_
  refine WL_y (Y_assign ((.slice none 0 0)) rfl) ?_
  refine WL_nil (nm_then ?_)
  refine W_seqJ (fun T' w' => ∃ M6, Mm.ext w.heap.size noX M M6 ∧ St w noX M6 [.box b4 cx1 31] w' ∧ T' 1 = .int .i64 x2 ∧ T' 2 = .pointer (some ⟨b4, 0, none⟩) ∧ T' 5 = (.slice none 0 0) ∧ again_j1 fu x1 x2 = some r) ?_ ?_
  · have hF96 := Mm.ext.refl w.heap.size noX M
    refine W_seqJ (fun T' w' => ∃ M98 c100, Mm.ext w.heap.size noX M M98 ∧ St w noX M98 [.box b4 cx1 31] w' ∧ T' 1 = .int .i64 x2 ∧ T' 2 = .pointer (some ⟨b4, 0, none⟩) ∧ T' 5 = (.slice none 0 0) ∧ T' 29 = .bool c100 ∧ again_j5 fu x1 x2 c100 = some r) ?_ ?_
    · have hF103 := Mm.ext.refl w.heap.size noX M
      refine W_reg ?_
      have ha104 := (rep_root (k := 24) rfl hcx1)
      refine WL_y (Y_ldn ta31 rfl (hS.bvB 0 rfl) (Rep.len ha104)) ?_
      obtain ⟨r107, hr106, hz⟩ := bind_ok hz
      refine WL_c (O_val (vs := [.agg (sl cx1 (0) 24).toArray]) (v := .bool r107) cb41 (args1 rfl) hS (postGood_ok hS.agree ha104 hr106) ?_)
      intro w105 hS
      refine WL_y (Y_not rfl) ?_
      refine WL_y (Y_move (.bool (!r107)) rfl) ?_
      rcases Bool.eq_false_or_eq_true (!r107) with hc108 | hc108
      · replace hz := bif_ok_t hz hc108
        refine WL_s (j := 3) rfl (bt hc108 rfl) rfl ?_
        refine WL_s (j := 3) rfl (bt hc108 rfl) rfl ?_
        refine WL_s (j := 3) rfl (bt hc108 rfl) rfl ?_
        refine WL_y (Y_pick_t (.bool true) (bt hc108 rfl) rfl) ?_
        refine WL_y (Y_move (.bool true) rfl) ?_
        refine WL_s (j := 8) rfl rfl rfl ?_
        refine WL_s (j := 8) rfl rfl rfl ?_
        refine WL_y (Y_pick_t (.bool true) rfl rfl) ?_
        refine WL_y (Y_move (.bool true) rfl) ?_
        refine WL_s (j := 12) rfl rfl rfl ?_
        refine WL_s (j := 12) rfl rfl rfl ?_
        refine WL_y (Y_pick_t (.bool true) rfl rfl) ?_
        refine WL_y (Y_move (.bool true) rfl) ?_
        refine WL_s (j := 16) rfl rfl rfl ?_
        refine WL_s (j := 16) rfl rfl rfl ?_
        refine WL_s (j := 16) rfl rfl rfl ?_
        refine WL_s (j := 16) rfl rfl rfl ?_
        refine WL_y (Y_pick_t (.bool true) rfl rfl) ?_
        refine WL_nil (nm_then ?_)
        exact ⟨M, true, hF103, hS, hT_1, rfl, rfl, rfl, hz⟩
      · replace hz := bif_ok_f hz hc108
        refine WL_gy rfl (bf hc108 rfl) (Y_fa fa31_0 rfl) ?_
        refine WL_gy rfl (bf hc108 rfl) (Y_ld1 (.bool x1.begun) ts4 rfl (hS.bvB 0 rfl) (GCase.p0 (rep_root (k := 24) rfl hcx1))) ?_
        refine WL_gy rfl (bf hc108 rfl) (Y_not rfl) ?_
        refine WL_y (Y_pick_f (.bool (!x1.begun)) (bf hc108 rfl) rfl) ?_
        refine WL_y (Y_move (.bool (!x1.begun)) rfl) ?_
        rcases Bool.eq_false_or_eq_true (!x1.begun) with hc109 | hc109
        · replace hz := bif_ok_t hz hc109
          refine WL_s (j := 8) rfl (bt hc109 rfl) rfl ?_
          refine WL_s (j := 8) rfl (bt hc109 rfl) rfl ?_
          refine WL_y (Y_pick_t (.bool true) (bt hc109 rfl) rfl) ?_
          refine WL_y (Y_move (.bool true) rfl) ?_
          refine WL_s (j := 12) rfl rfl rfl ?_
          refine WL_s (j := 12) rfl rfl rfl ?_
          refine WL_y (Y_pick_t (.bool true) rfl rfl) ?_
          refine WL_y (Y_move (.bool true) rfl) ?_
          refine WL_s (j := 16) rfl rfl rfl ?_
          refine WL_s (j := 16) rfl rfl rfl ?_
          refine WL_s (j := 16) rfl rfl rfl ?_
          refine WL_s (j := 16) rfl rfl rfl ?_
          refine WL_y (Y_pick_t (.bool true) rfl rfl) ?_
          refine WL_nil (nm_then ?_)
          exact ⟨M, true, hF103, hS, hT_1, rfl, rfl, rfl, hz⟩
        · replace hz := bif_ok_f hz hc109
          refine WL_gy rfl (bf hc109 rfl) (Y_move (.int .i64 x2) hT_1) ?_
          refine WL_gy rfl (bf hc109 rfl) (Y_lss rfl rfl) ?_
          refine WL_y (Y_pick_f (.bool (decide (x2 < 0))) (bf hc109 rfl) rfl) ?_
          refine WL_y (Y_move (.bool (decide (x2 < 0))) rfl) ?_
          rcases Bool.eq_false_or_eq_true (decide (x2 < 0)) with hc110 | hc110
          · replace hz := bif_ok_t hz hc110
            refine WL_s (j := 12) rfl (bt hc110 rfl) rfl ?_
            refine WL_s (j := 12) rfl (bt hc110 rfl) rfl ?_
            refine WL_y (Y_pick_t (.bool true) (bt hc110 rfl) rfl) ?_
            refine WL_y (Y_move (.bool true) rfl) ?_
            refine WL_s (j := 16) rfl rfl rfl ?_
            refine WL_s (j := 16) rfl rfl rfl ?_
            refine WL_s (j := 16) rfl rfl rfl ?_
            refine WL_s (j := 16) rfl rfl rfl ?_
            refine WL_y (Y_pick_t (.bool true) rfl rfl) ?_
            refine WL_nil (nm_then ?_)
            exact ⟨M, true, hF103, hS, hT_1, rfl, rfl, rfl, hz⟩
          · replace hz := bif_ok_f hz hc110
            refine WL_gy rfl (bf hc110 rfl) (Y_move (.int .i64 x2) hT_1) ?_
            refine WL_gy rfl (bf hc110 rfl) (Y_geq rfl rfl) ?_
            refine WL_y (Y_pick_f (.bool (decide (x2 ≥ 32))) (bf hc110 rfl) rfl) ?_
            refine WL_y (Y_move (.bool (decide (x2 ≥ 32))) rfl) ?_
            rcases Bool.eq_false_or_eq_true (decide (x2 ≥ 32)) with hc111 | hc111
            · replace hz := bif_ok_t hz hc111
              refine WL_s (j := 16) rfl (bt hc111 rfl) rfl ?_
              refine WL_s (j := 16) rfl (bt hc111 rfl) rfl ?_
              refine WL_s (j := 16) rfl (bt hc111 rfl) rfl ?_
              refine WL_s (j := 16) rfl (bt hc111 rfl) rfl ?_
              refine WL_y (Y_pick_t (.bool true) (bt hc111 rfl) rfl) ?_
              refine WL_nil (nm_then ?_)
              exact ⟨M, true, hF103, hS, hT_1, rfl, rfl, rfl, hz⟩
            · replace hz := bif_ok_f hz hc111
              refine WL_gy rfl (bf hc111 rfl) (Y_fa fa31_5 rfl) ?_
              obtain ⟨v112, ev112, hv112⟩ := (GCase.p5 (rep_root (k := 24) rfl hcx1))
              refine WL_gy rfl (bf hc111 rfl) (Y_ld1 v112 ts27 rfl (hS.bvB 0 rfl) ev112) ?_
              refine WL_gy rfl (bf hc111 rfl) (Y_move (.int .i64 x2) hT_1) ?_
              obtain ⟨r115, hr114, hz⟩ := bind_ok hz
              replace hr114 := Option.some.inj hr114
              refine WL_g rfl (bf hc111 rfl) (O_val (vs := [v112, .int .i64 x2]) (v := .bool r115) cb42 (args2 rfl rfl) hS (hr114 ▸ (c_contains hS.agree hv112)) ?_)
              intro w113 hS
              refine WL_y (Y_pick_f (.bool r115) (bf hc111 rfl) rfl) ?_
              refine WL_nil (nm_then ?_)
              exact ⟨M, r115, hF103, hS, hT_1, rfl, rfl, rfl, hz⟩
    · rintro T99 w97 ⟨M98, c100, hx101, hS, hT99_1, hT99_2, hT99_5, hT99_29, hz⟩
      replace hcx1 := Rep.mono hx101.1 hcx1
      replace hE := Mm.ext.trans hE hx101
      replace hF96 := Mm.ext.trans hF96 hx101
      rw [again_j5] at hz
      refine W_cond hT99_29 (fun hc102 => ?_) (fun hc102 => ?_)
      · replace hz := bif_ok_t hz hc102
        refine W_seq ?_
        refine W_reg ?_
        refine WL_y (Y_assign ((.slice none 0 0)) rfl) ?_
        refine WL_nil (nm_then ?_)
        cases hz
        exact W_ret (rt_then (R_t1 rfl rfl (Gives.mk (St.dropB hS hb4) hE (repL_nil _))))
      · replace hz := bif_ok_f hz hc102
        refine W_skip (nm_then ?_)
        exact ⟨M98, hF96, hS, hT99_1, hT99_2, hT99_5, hz⟩
  · rintro T7 w5 ⟨M6, hx8, hS, hT7_1, hT7_2, hT7_5, hz⟩
    replace hcx1 := Rep.mono hx8.1 hcx1
    replace hE := Mm.ext.trans hE hx8
    rw [again_j1] at hz
    refine W_seq ?_
    refine W_seq ?_
    refine W_reg ?_
    refine WL_y (Y_move (.int .i64 0) rfl) ?_
    refine WL_nil (nm_then ?_)
    refine W_block ?_
    replace hS := hS.nilRow 38 7
    replace hS : St w noX M6 [.row (.slice none 0 0) 38 7, .box b4 cx1 31] w5 := hS
    refine W_loop (fun k17 T' w' => ∃ M11 v14 l13 y15, Mm.ext w.heap.size noX M6 M11 ∧ St w noX M11 [.row v14 38 7, .box b4 cx1 31] w' ∧ repL M11 v14 l13 ∧ T' 1 = .int .i64 x2 ∧ T' 2 = .pointer (some ⟨b4, 0, none⟩) ∧ T' 5 = v14 ∧ T' 30 = .int .i64 y15 ∧ again_l1 fu x1 x2 k17 l13 y15 = some r) fu ?_ ?_ ?_
    · exact ⟨M6, (.slice none 0 0), ([] : List GFrame), (0 : Int), (Mm.ext.refl _ _ _), hS, (repL_nil _), hT7_1, hT7_2, hT7_5, rfl, hz⟩
    · rintro T' w' ⟨_, _, _, _, _, _, _, _, _, _, _, hz⟩
      rw [again_l1] at hz
      cases hz
    · intro k17
      rintro T12 w10 ⟨M11, v14, l13, y15, hx19, hS, hv14, hT12_1, hT12_2, hT12_5, hT12_30, hz⟩
      replace hcx1 := Rep.mono hx19.1 hcx1
      replace hE := Mm.ext.trans hE hx19
      have hF18 := hx19
      rw [again_l1] at hz
      obtain ⟨rec16, hrec16⟩ : ∃ f, f = again_l1 fu x1 x2 k17 := ⟨_, rfl⟩
      rw [← hrec16] at hz
      refine W_seq ?_
      refine W_reg ?_
      refine WL_y (Y_lss hT12_30 rfl) ?_
      refine WL_nil (nm_then ?_)
      refine W_seq ?_
      refine W_cond rfl (fun hc20 => ?_) (fun hc20 => ?_)
      · replace hz := bif_ok_t hz hc20
        refine W_skip (nm_then ?_)
        refine W_seqJ (fun T' w' => ∃ M22 v25 l24, Mm.ext w.heap.size noX M11 M22 ∧ St w noX M22 [.row v25 38 7, .box b4 cx1 31] w' ∧ repL M22 v25 l24 ∧ T' 1 = .int .i64 x2 ∧ T' 2 = .pointer (some ⟨b4, 0, none⟩) ∧ T' 5 = v25 ∧ T' 30 = .int .i64 y15 ∧ again_j2 y15 rec16 l24 = some r) ?_ ?_
        · have hF27 := Mm.ext.refl w.heap.size noX M11
          refine W_block ?_
          refine W_seq ?_
          refine W_reg ?_
          refine WL_y (Y_move (.int .i64 y15) hT12_30) ?_
          refine WL_y (Y_assign (.int .i64 y15) rfl) ?_
          refine WL_nil (nm_then ?_)
          refine W_seq ?_
          refine W_drawB (Rd M11 [.box b4 cx1 31]) (inL []) mixed hS fun w28 hS => ?_
          have hG29 := Mm.ext.refl w.heap.size noX M11
          have hR30 : Rd M11 [.box b4 cx1 31] w28 := Rd.of hS hG29 (by simp)
          refine WB_y (i := 0) rfl (by kernel_rfl) rfl (Y_fa fa31_2 hT12_2) (fun _ => hR30) ?_
          obtain ⟨v31, ev31, hv31⟩ := (GCase.p2 (rep_root (k := 24) rfl hcx1))
          refine WB_ld (i := 1) rfl (by kernel_rfl) rfl (inL_lt rfl) (by kernel_rfl) (by kernel_rfl) (Y_ld1 v31 ts22 rfl (bvR 0 rfl) ev31) hR30 ?_
          refine WB_y (i := 2) rfl (by kernel_rfl) rfl (Y_move (.int .i64 y15) rfl) (fun _ => hR30) ?_
          obtain ⟨r34, hr33, hz⟩ := bind_ok hz
          replace hr33 := Option.some.inj hr33
          refine WB_one (i := 3) (by kernel_rfl) rfl (O_val (vs := [.int .i64 y15]) (v := .int .i64 r34) cb45 (args1 rfl) hS (hr33 ▸ (c_of)) ?_)
          intro w32 hS
          have hR35 : Rd M11 [.box b4 cx1 31] w32 := Rd.of hS hG29 (by simp)
          refine ⟨fun _ => hR35, ?_⟩
          obtain ⟨r38, hr37, hz⟩ := bind_ok hz
          replace hr37 := Option.some.inj hr37
          refine WB_one (i := 4) (by kernel_rfl) rfl (O_val (vs := [v31, .int .i64 r34]) (v := .bool r38) cb44 (args2 rfl rfl) hS (hr37 ▸ (c_touches hS.agree hv31)) ?_)
          intro w36 hS
          have hR39 : Rd M11 [.box b4 cx1 31] w36 := Rd.of hS hG29 (by simp)
          refine ⟨fun _ => hR39, ?_⟩
          refine WB_y (i := 5) rfl (by kernel_rfl) rfl (Y_assign (.bool r38) rfl) (fun _ => hR39) ?_
          refine WB_done (by kernel_rfl) (nm_then ?_)
          refine W_block ?_
          refine W_seqJ (fun T' w' => ∃ M41 c43, Mm.ext w.heap.size noX M11 M41 ∧ St w noX M41 [.row v14 38 7, .box b4 cx1 31] w' ∧ T' 1 = .int .i64 x2 ∧ T' 2 = .pointer (some ⟨b4, 0, none⟩) ∧ T' 5 = v14 ∧ T' 6 = .int .i64 y15 ∧ T' 7 = .bool r38 ∧ T' 30 = .int .i64 y15 ∧ T' 38 = .bool c43 ∧ again_j3 fu x1 x2 l13 y15 rec16 r38 c43 = some r) ?_ ?_
          · have hF89 := Mm.ext.refl w.heap.size noX M11
            refine W_reg ?_
            refine WL_y (Y_fa fa31_1 hT12_2) ?_
            refine WL_y (Y_ld1 (.bool x1.fixed) ts4 rfl (hS.bvB 1 rfl) (GCase.p1 (rep_root (k := 24) rfl hcx1))) ?_
            refine WL_y (Y_not rfl) ?_
            refine WL_y (Y_move (.bool (!x1.fixed)) rfl) ?_
            rcases Bool.eq_false_or_eq_true (!x1.fixed) with hc90 | hc90
            · replace hz := bif_ok_t hz hc90
              refine WL_gy rfl (bt hc90 rfl) (Y_move (.bool r38) rfl) ?_
              refine WL_y (Y_pick_t (.bool r38) (bt hc90 rfl) rfl) ?_
              refine WL_y (Y_move (.bool r38) rfl) ?_
              rcases Bool.eq_false_or_eq_true r38 with hc91 | hc91
              · replace hz := bif_ok_t hz hc91
                refine WL_gy rfl (bt hc91 rfl) (Y_move (.int .i64 y15) rfl) ?_
                refine WL_gy rfl (bt hc91 rfl) (Y_fa fa31_3 hT12_2) ?_
                obtain ⟨u92, hx93, hz⟩ := bind_ok hz
                obtain ⟨hx93a, hx93b⟩ := inR_some hx93
                refine WL_gy rfl (bt hc91 rfl) (Y_ixA ia26 rfl rfl hx93a hx93b) ?_
                obtain ⟨x94, hx95, hz⟩ := bind_ok hz
                refine WL_gy rfl (bt hc91 rfl) (Y_ld1 (.bool x94) ts4 rfl (hS.bvB 1 rfl) (vp (k := 1) rfl rfl (GCase.p3 (rep_root (k := 24) rfl hcx1)) hx95)) ?_
                refine WL_gy rfl (bt hc91 rfl) (Y_not rfl) ?_
                refine WL_y (Y_pick_t (.bool (!x94)) (bt hc91 rfl) rfl) ?_
                refine WL_y (Y_assign (.bool (!x94)) rfl) ?_
                refine WL_nil (nm_then ?_)
                exact ⟨M11, (!x94), hF89, hS, hT12_1, hT12_2, hT12_5, rfl, rfl, hT12_30, rfl, hz⟩
              · replace hz := bif_ok_f hz hc91
                refine WL_s (j := 6) rfl (bf hc91 rfl) rfl ?_
                refine WL_s (j := 6) rfl (bf hc91 rfl) rfl ?_
                refine WL_s (j := 6) rfl (bf hc91 rfl) rfl ?_
                refine WL_s (j := 6) rfl (bf hc91 rfl) rfl ?_
                refine WL_s (j := 6) rfl (bf hc91 rfl) rfl ?_
                refine WL_y (Y_pick_f (.bool false) (bf hc91 rfl) rfl) ?_
                refine WL_y (Y_assign (.bool false) rfl) ?_
                refine WL_nil (nm_then ?_)
                exact ⟨M11, false, hF89, hS, hT12_1, hT12_2, hT12_5, rfl, rfl, hT12_30, rfl, hz⟩
            · replace hz := bif_ok_f hz hc90
              refine WL_s (j := 3) rfl (bf hc90 rfl) rfl ?_
              refine WL_y (Y_pick_f (.bool false) (bf hc90 rfl) rfl) ?_
              refine WL_y (Y_move (.bool false) rfl) ?_
              refine WL_s (j := 6) rfl rfl rfl ?_
              refine WL_s (j := 6) rfl rfl rfl ?_
              refine WL_s (j := 6) rfl rfl rfl ?_
              refine WL_s (j := 6) rfl rfl rfl ?_
              refine WL_s (j := 6) rfl rfl rfl ?_
              refine WL_y (Y_pick_f (.bool false) rfl rfl) ?_
              refine WL_y (Y_assign (.bool false) rfl) ?_
              refine WL_nil (nm_then ?_)
              exact ⟨M11, false, hF89, hS, hT12_1, hT12_2, hT12_5, rfl, rfl, hT12_30, rfl, hz⟩
          · rintro T42 w40 ⟨M41, c43, hx44, hS, hT42_1, hT42_2, hT42_5, hT42_6, hT42_7, hT42_30, hT42_38, hz⟩
            replace hcx1 := Rep.mono hx44.1 hcx1
            replace hv14 := repL.mono hx44.1 hv14
            replace hE := Mm.ext.trans hE hx44
            replace hF18 := Mm.ext.trans hF18 hx44
            replace hF27 := Mm.ext.trans hF27 hx44
            rw [again_j3] at hz
            refine W_cond hT42_38 (fun hc45 => ?_) (fun hc45 => ?_)
            · replace hz := bif_ok_t hz hc45
              refine W_reg ?_
              refine WL_y (Y_move (v14) hT42_5) ?_
              refine WL_y (Y_move (.int .i64 y15) hT42_6) ?_
              refine WL_y (Y_move (.int .i64 x2) hT42_1) ?_
              refine WL_y (Y_fa fa31_2 hT42_2) ?_
              obtain ⟨v46, ev46, hv46⟩ := (GCase.p2 (rep_root (k := 24) rfl hcx1))
              refine WL_y (Y_ld1 v46 ts22 rfl (hS.bvB 1 rfl) ev46) ?_
              have k47_0 := GFrame.w0 (Zr.zr : rep M41 (Zr.zc GFrame) (Zr.zd : GFrame)) (show rep M41 [Value.int .i64 1] (1 : Int) from rfl)
              have k47_1 := GFrame.w1 k47_0 (show rep M41 [Value.int .i64 y15] (y15 : Int) from rfl)
              have k47_2 := GFrame.w2 k47_1 (show rep M41 [Value.int .i64 x2] (x2 : Int) from rfl)
              have k47_3 := GFrame.w3 k47_2 (repL_rep hv46)
              obtain ⟨d48, hd47, hz⟩ := bind_ok hz
              obtain ⟨cs47, hf47, ha47⟩ : ∃ cs, fillZ (([(0, 1), (1, 1), (2, 1), (3, 1), (4, 1), (5, 1), (6, 1)] : List (Nat × Nat))[·]?) (Zr.zc GFrame) [(0, .int .i64 1), (1, .int .i64 y15), (2, .int .i64 x2), (3, v46)] = some cs ∧ rep M41 cs d48 := ⟨_, (fz_cons (Zr.zr : rep M41 (Zr.zc GFrame) (Zr.zd : GFrame)) rfl rfl (Rep.len (show rep M41 [Value.int .i64 1] (1 : Int) from rfl)) (by decide) (fz_cons k47_0 rfl rfl (Rep.len (show rep M41 [Value.int .i64 y15] (y15 : Int) from rfl)) (by decide) (fz_cons k47_1 rfl rfl (Rep.len (show rep M41 [Value.int .i64 x2] (x2 : Int) from rfl)) (by decide) (fz_cons k47_2 rfl (repL_cells hv46) (Rep.len (repL_rep hv46)) (by decide) fz_nil)))), rep_eq (x := ({ kind := 1, node := y15, id := x2, ops := x1.ops, deps := Zr.zd, at_ := Zr.zd, vals := Zr.zd } : GFrame)) k47_3 hd47⟩
              refine WL_y (Y_build [(0, .int .i64 1), (1, .int .i64 y15), (2, .int .i64 x2), (3, v46)] tb38 (bpc rfl (bpc rfl (bpc rfl (bpc rfl bp0)))) hf47) ?_
              refine WL_c (O_bslice (α := GFrame) (l := ([d48] : List GFrame)) [.agg cs47.toArray] tl25 (bpc rfl bp0) rfl rfl (by decide) (by decide) (by decide) hS (brc ha47 br0) ?_)
              intro v50 M50 w49 hx50 hv50 hS
              replace hcx1 := Rep.mono hx50.1 hcx1
              replace hv14 := repL.mono hx50.1 hv14
              replace hv46 := repL.mono hx50.1 hv46
              replace ha47 := Rep.mono hx50.1 ha47
              replace hE := Mm.ext.trans hE hx50
              replace hF18 := Mm.ext.trans hF18 hx50
              replace hF27 := Mm.ext.trans hF27 hx50
              obtain ⟨l53, hr52, hz⟩ := bind_ok hz
              obtain ⟨hy52, hs52⟩ := app_some hr52
              refine WL_c (O_app (α := GFrame) (j := 0) tp25 hS rfl rfl rfl hv14 hv50 hy52 ?_)
              intro v52 M52 w51 hx52 hv52 hS
              rw [← hs52] at hv52
              clear hr52 hs52
              replace hcx1 := Rep.mono hx52.1 hcx1
              replace hv14 := repL.mono hx52.1 hv14
              replace hv46 := repL.mono hx52.1 hv46
              replace ha47 := Rep.mono hx52.1 ha47
              replace hv50 := repL.mono hx52.1 hv50
              replace hE := Mm.ext.trans hE hx52
              replace hF18 := Mm.ext.trans hF18 hx52
              replace hF27 := Mm.ext.trans hF27 hx52
              replace hS : St w noX M52 [.row v52 38 7, .box b4 cx1 31] w51 := hS
              refine WL_y (Y_assign (v52) rfl) ?_
              refine WL_nil (nm_blk ?_)
              refine (nm_blk ?_)
              refine (nm_then ?_)
              exact ⟨M52, v52, l53, hF27, hS, hv52, hT42_1, hT42_2, rfl, hT42_30, hz⟩
            · replace hz := bif_ok_f hz hc45
              refine W_seqJ (fun T' w' => ∃ M55 c57, Mm.ext w.heap.size noX M41 M55 ∧ St w noX M55 [.row v14 38 7, .box b4 cx1 31] w' ∧ T' 1 = .int .i64 x2 ∧ T' 2 = .pointer (some ⟨b4, 0, none⟩) ∧ T' 5 = v14 ∧ T' 6 = .int .i64 y15 ∧ T' 30 = .int .i64 y15 ∧ T' 60 = .bool c57 ∧ again_j4 x1 x2 l13 y15 rec16 c57 = some r) ?_ ?_
              · have hF69 := Mm.ext.refl w.heap.size noX M41
                refine W_drawB (Rd M41 [.box b4 cx1 31]) (inL []) mixed hS fun w70 hS => ?_
                have hG71 := Mm.ext.refl w.heap.size noX M41
                have hR72 : Rd M41 [.box b4 cx1 31] w70 := Rd.of hS hG71 (by simp)
                refine WB_y (i := 0) rfl (by kernel_rfl) rfl (Y_fa fa31_1 hT42_2) (fun _ => hR72) ?_
                refine WB_ld (i := 1) rfl (by kernel_rfl) rfl (inL_lt rfl) (by kernel_rfl) (by kernel_rfl) (Y_ld1 (.bool x1.fixed) ts4 rfl (bvR 0 rfl) (GCase.p1 (rep_root (k := 24) rfl hcx1))) hR72 ?_
                refine WB_y (i := 2) rfl (by kernel_rfl) rfl (Y_move (.bool x1.fixed) rfl) (fun _ => hR72) ?_
                rcases Bool.eq_false_or_eq_true x1.fixed with hc73 | hc73
                · replace hz := bif_ok_t hz hc73
                  refine WB_gy (i := 3) rfl (by kernel_rfl) rfl rfl (bt hc73 rfl) (Y_move (.int .i64 y15) hT42_6) (fun _ => hR72) ?_
                  refine WB_gy (i := 4) rfl (by kernel_rfl) rfl rfl (bt hc73 rfl) (Y_fa fa31_4 hT42_2) (fun _ => hR72) ?_
                  obtain ⟨u74, hx75, hz⟩ := bind_ok hz
                  obtain ⟨hx75a, hx75b⟩ := inR_some hx75
                  refine WB_gy (i := 5) rfl (by kernel_rfl) rfl rfl (bt hc73 rfl) (Y_ixA ia26 rfl rfl hx75a hx75b) (fun _ => hR72) ?_
                  obtain ⟨x76, hx77, hz⟩ := bind_ok hz
                  refine WB_gld (i := 6) rfl (by kernel_rfl) rfl (inL_lt rfl) (by kernel_rfl) (by kernel_rfl) rfl (bt hc73 rfl) (Y_ld1 (.bool x76) ts4 rfl (bvR 0 rfl) (vp (k := 1) rfl rfl (GCase.p4 (rep_root (k := 24) rfl hcx1)) hx77)) hR72 ?_
                  refine WB_gy (i := 7) rfl (by kernel_rfl) rfl rfl (bt hc73 rfl) (Y_not rfl) (fun _ => hR72) ?_
                  refine WB_gy (i := 8) rfl (by kernel_rfl) rfl rfl (bt hc73 rfl) (Y_move (.bool (!x76)) rfl) (fun _ => hR72) ?_
                  rcases Bool.eq_false_or_eq_true (!x76) with hc78 | hc78
                  · replace hz := bif_ok_t hz hc78
                    refine WB_s (i := 9) (j := 8) rfl (by kernel_rfl) rfl rfl (bt hc78 rfl) rfl (fun _ => hR72) ?_
                    refine WB_s (i := 10) (j := 8) rfl (by kernel_rfl) rfl rfl (bt hc78 rfl) rfl (fun _ => hR72) ?_
                    refine WB_su (i := 11) (j := 10) rfl (by kernel_rfl) rfl rfl rfl (fun _ => hR72) ?_
                    refine WB_su (i := 12) (j := 10) rfl (by kernel_rfl) rfl rfl rfl (fun _ => hR72) ?_
                    refine WB_su (i := 13) (j := 10) rfl (by kernel_rfl) rfl rfl rfl (fun _ => hR72) ?_
                    refine WB_su (i := 14) (j := 10) rfl (by kernel_rfl) rfl rfl rfl (fun _ => hR72) ?_
                    refine WB_su (i := 15) (j := 10) rfl (by kernel_rfl) rfl rfl rfl (fun _ => hR72) ?_
                    refine WB_s (i := 16) (j := 8) rfl (by kernel_rfl) rfl rfl (bt hc78 rfl) rfl (fun _ => hR72) ?_
                    refine WB_gy (i := 17) rfl (by kernel_rfl) rfl rfl (bt hc73 rfl) (Y_pick_t (.bool true) (bt hc78 rfl) rfl) (fun _ => hR72) ?_
                    refine WB_y (i := 18) rfl (by kernel_rfl) rfl (Y_pick_t (.bool true) (bt hc73 rfl) rfl) (fun _ => hR72) ?_
                    refine WB_y (i := 19) rfl (by kernel_rfl) rfl (Y_assign (.bool true) rfl) (fun _ => hR72) ?_
                    refine WB_done (by kernel_rfl) (nm_then ?_)
                    exact ⟨M41, true, hF69, hS, hT42_1, hT42_2, hT42_5, hT42_6, hT42_30, rfl, hz⟩
                  · replace hz := bif_ok_f hz hc78
                    refine WB_gy (i := 9) rfl (by kernel_rfl) rfl rfl (bf hc78 rfl) (Y_move (.bool r38) hT42_7) (fun _ => hR72) ?_
                    refine WB_gy (i := 10) rfl (by kernel_rfl) rfl rfl (bf hc78 rfl) (Y_move (.bool r38) rfl) (fun _ => hR72) ?_
                    rcases Bool.eq_false_or_eq_true r38 with hc79 | hc79
                    · replace hz := bif_ok_t hz hc79
                      have ha80 := (rep_root (k := 24) rfl hcx1)
                      refine WB_gld (i := 11) rfl (by kernel_rfl) rfl (inL_lt rfl) (by kernel_rfl) (by kernel_rfl) rfl (bt hc79 rfl) (Y_ldn ta31 hT42_2 (bvR 0 rfl) (Rep.len ha80)) hR72 ?_
                      refine WB_gy (i := 12) rfl (by kernel_rfl) rfl rfl (bt hc79 rfl) (Y_move (.int .i64 y15) hT42_6) (fun _ => hR72) ?_
                      obtain ⟨r83, hr82, hz⟩ := bind_ok hz
                      replace hr82 := Option.some.inj hr82
                      refine WB_one_g (i := 13) (by kernel_rfl) rfl rfl (bt hc79 rfl) (O_val (vs := [.int .i64 y15]) (v := .int .i64 r83) cb45 (args1 rfl) hS (hr82 ▸ (c_of)) ?_)
                      intro w81 hS
                      have hR84 : Rd M41 [.box b4 cx1 31] w81 := Rd.of hS hG71 (by simp)
                      refine ⟨fun _ => hR84, ?_⟩
                      obtain ⟨r87, hr86, hz⟩ := bind_ok hz
                      refine WB_one_g (i := 14) (by kernel_rfl) rfl rfl (bt hc79 rfl) (O_val (vs := [.agg (sl cx1 (0) 24).toArray, .int .i64 r83]) (v := .bool r87) cb49 (args2 rfl rfl) hS (whole_ok hS.agree ha80 hr86) ?_)
                      intro w85 hS
                      have hR88 : Rd M41 [.box b4 cx1 31] w85 := Rd.of hS hG71 (by simp)
                      refine ⟨fun _ => hR88, ?_⟩
                      refine WB_gy (i := 15) rfl (by kernel_rfl) rfl rfl (bt hc79 rfl) (Y_not rfl) (fun _ => hR88) ?_
                      refine WB_gy (i := 16) rfl (by kernel_rfl) rfl rfl (bf hc78 rfl) (Y_pick_t (.bool (!r87)) (bt hc79 rfl) rfl) (fun _ => hR88) ?_
                      refine WB_gy (i := 17) rfl (by kernel_rfl) rfl rfl (bt hc73 rfl) (Y_pick_f (.bool (!r87)) (bf hc78 rfl) rfl) (fun _ => hR88) ?_
                      refine WB_y (i := 18) rfl (by kernel_rfl) rfl (Y_pick_t (.bool (!r87)) (bt hc73 rfl) rfl) (fun _ => hR88) ?_
                      refine WB_y (i := 19) rfl (by kernel_rfl) rfl (Y_assign (.bool (!r87)) rfl) (fun _ => hR88) ?_
                      refine WB_done (by kernel_rfl) (nm_then ?_)
                      exact ⟨M41, (!r87), hF69, hS, hT42_1, hT42_2, hT42_5, hT42_6, hT42_30, rfl, hz⟩
                    · replace hz := bif_ok_f hz hc79
                      refine WB_s (i := 11) (j := 10) rfl (by kernel_rfl) rfl rfl (bf hc79 rfl) rfl (fun _ => hR72) ?_
                      refine WB_s (i := 12) (j := 10) rfl (by kernel_rfl) rfl rfl (bf hc79 rfl) rfl (fun _ => hR72) ?_
                      refine WB_s (i := 13) (j := 10) rfl (by kernel_rfl) rfl rfl (bf hc79 rfl) rfl (fun _ => hR72) ?_
                      refine WB_s (i := 14) (j := 10) rfl (by kernel_rfl) rfl rfl (bf hc79 rfl) rfl (fun _ => hR72) ?_
                      refine WB_s (i := 15) (j := 10) rfl (by kernel_rfl) rfl rfl (bf hc79 rfl) rfl (fun _ => hR72) ?_
                      refine WB_gy (i := 16) rfl (by kernel_rfl) rfl rfl (bf hc78 rfl) (Y_pick_f (.bool false) (bf hc79 rfl) rfl) (fun _ => hR72) ?_
                      refine WB_gy (i := 17) rfl (by kernel_rfl) rfl rfl (bt hc73 rfl) (Y_pick_f (.bool false) (bf hc78 rfl) rfl) (fun _ => hR72) ?_
                      refine WB_y (i := 18) rfl (by kernel_rfl) rfl (Y_pick_t (.bool false) (bt hc73 rfl) rfl) (fun _ => hR72) ?_
                      refine WB_y (i := 19) rfl (by kernel_rfl) rfl (Y_assign (.bool false) rfl) (fun _ => hR72) ?_
                      refine WB_done (by kernel_rfl) (nm_then ?_)
                      exact ⟨M41, false, hF69, hS, hT42_1, hT42_2, hT42_5, hT42_6, hT42_30, rfl, hz⟩
                · replace hz := bif_ok_f hz hc73
                  refine WB_s (i := 3) (j := 2) rfl (by kernel_rfl) rfl rfl (bf hc73 rfl) rfl (fun _ => hR72) ?_
                  refine WB_s (i := 4) (j := 2) rfl (by kernel_rfl) rfl rfl (bf hc73 rfl) rfl (fun _ => hR72) ?_
                  refine WB_s (i := 5) (j := 2) rfl (by kernel_rfl) rfl rfl (bf hc73 rfl) rfl (fun _ => hR72) ?_
                  refine WB_s (i := 6) (j := 2) rfl (by kernel_rfl) rfl rfl (bf hc73 rfl) rfl (fun _ => hR72) ?_
                  refine WB_s (i := 7) (j := 2) rfl (by kernel_rfl) rfl rfl (bf hc73 rfl) rfl (fun _ => hR72) ?_
                  refine WB_s (i := 8) (j := 2) rfl (by kernel_rfl) rfl rfl (bf hc73 rfl) rfl (fun _ => hR72) ?_
                  refine WB_su (i := 9) (j := 8) rfl (by kernel_rfl) rfl rfl rfl (fun _ => hR72) ?_
                  refine WB_su (i := 10) (j := 8) rfl (by kernel_rfl) rfl rfl rfl (fun _ => hR72) ?_
                  refine WB_su (i := 11) (j := 10) rfl (by kernel_rfl) rfl rfl rfl (fun _ => hR72) ?_
                  refine WB_su (i := 12) (j := 10) rfl (by kernel_rfl) rfl rfl rfl (fun _ => hR72) ?_
                  refine WB_su (i := 13) (j := 10) rfl (by kernel_rfl) rfl rfl rfl (fun _ => hR72) ?_
                  refine WB_su (i := 14) (j := 10) rfl (by kernel_rfl) rfl rfl rfl (fun _ => hR72) ?_
                  refine WB_su (i := 15) (j := 10) rfl (by kernel_rfl) rfl rfl rfl (fun _ => hR72) ?_
                  refine WB_su (i := 16) (j := 8) rfl (by kernel_rfl) rfl rfl rfl (fun _ => hR72) ?_
                  refine WB_s (i := 17) (j := 2) rfl (by kernel_rfl) rfl rfl (bf hc73 rfl) rfl (fun _ => hR72) ?_
                  refine WB_y (i := 18) rfl (by kernel_rfl) rfl (Y_pick_f (.bool false) (bf hc73 rfl) rfl) (fun _ => hR72) ?_
                  refine WB_y (i := 19) rfl (by kernel_rfl) rfl (Y_assign (.bool false) rfl) (fun _ => hR72) ?_
                  refine WB_done (by kernel_rfl) (nm_then ?_)
                  exact ⟨M41, false, hF69, hS, hT42_1, hT42_2, hT42_5, hT42_6, hT42_30, rfl, hz⟩
              · rintro T56 w54 ⟨M55, c57, hx58, hS, hT56_1, hT56_2, hT56_5, hT56_6, hT56_30, hT56_60, hz⟩
                replace hcx1 := Rep.mono hx58.1 hcx1
                replace hv14 := repL.mono hx58.1 hv14
                replace hE := Mm.ext.trans hE hx58
                replace hF18 := Mm.ext.trans hF18 hx58
                replace hF27 := Mm.ext.trans hF27 hx58
                rw [again_j4] at hz
                refine W_cond hT56_60 (fun hc59 => ?_) (fun hc59 => ?_)
                · replace hz := bif_ok_t hz hc59
                  refine W_reg ?_
                  refine WL_y (Y_move (v14) hT56_5) ?_
                  refine WL_y (Y_move (.int .i64 y15) hT56_6) ?_
                  refine WL_y (Y_move (.int .i64 x2) hT56_1) ?_
                  refine WL_y (Y_fa fa31_2 hT56_2) ?_
                  obtain ⟨v60, ev60, hv60⟩ := (GCase.p2 (rep_root (k := 24) rfl hcx1))
                  refine WL_y (Y_ld1 v60 ts22 rfl (hS.bvB 1 rfl) ev60) ?_
                  refine WL_y (Y_fa fa31_5 hT56_2) ?_
                  obtain ⟨v61, ev61, hv61⟩ := (GCase.p5 (rep_root (k := 24) rfl hcx1))
                  refine WL_y (Y_ld1 v61 ts27 rfl (hS.bvB 1 rfl) ev61) ?_
                  have k62_0 := GFrame.w0 (Zr.zr : rep M55 (Zr.zc GFrame) (Zr.zd : GFrame)) (show rep M55 [Value.int .i64 3] (3 : Int) from rfl)
                  have k62_1 := GFrame.w1 k62_0 (show rep M55 [Value.int .i64 y15] (y15 : Int) from rfl)
                  have k62_2 := GFrame.w2 k62_1 (show rep M55 [Value.int .i64 x2] (x2 : Int) from rfl)
                  have k62_3 := GFrame.w3 k62_2 (repL_rep hv60)
                  have k62_4 := GFrame.w4 k62_3 (repL_rep hv61)
                  obtain ⟨d63, hd62, hz⟩ := bind_ok hz
                  obtain ⟨cs62, hf62, ha62⟩ : ∃ cs, fillZ (([(0, 1), (1, 1), (2, 1), (3, 1), (4, 1), (5, 1), (6, 1)] : List (Nat × Nat))[·]?) (Zr.zc GFrame) [(0, .int .i64 3), (1, .int .i64 y15), (2, .int .i64 x2), (3, v60), (4, v61)] = some cs ∧ rep M55 cs d63 := ⟨_, (fz_cons (Zr.zr : rep M55 (Zr.zc GFrame) (Zr.zd : GFrame)) rfl rfl (Rep.len (show rep M55 [Value.int .i64 3] (3 : Int) from rfl)) (by decide) (fz_cons k62_0 rfl rfl (Rep.len (show rep M55 [Value.int .i64 y15] (y15 : Int) from rfl)) (by decide) (fz_cons k62_1 rfl rfl (Rep.len (show rep M55 [Value.int .i64 x2] (x2 : Int) from rfl)) (by decide) (fz_cons k62_2 rfl (repL_cells hv60) (Rep.len (repL_rep hv60)) (by decide) (fz_cons k62_3 rfl (repL_cells hv61) (Rep.len (repL_rep hv61)) (by decide) fz_nil))))), rep_eq (x := ({ kind := 3, node := y15, id := x2, ops := x1.ops, deps := x1.deps, at_ := Zr.zd, vals := Zr.zd } : GFrame)) k62_4 hd62⟩
                  refine WL_y (Y_build [(0, .int .i64 3), (1, .int .i64 y15), (2, .int .i64 x2), (3, v60), (4, v61)] tb38 (bpc rfl (bpc rfl (bpc rfl (bpc rfl (bpc rfl bp0))))) hf62) ?_
                  refine WL_c (O_bslice (α := GFrame) (l := ([d63] : List GFrame)) [.agg cs62.toArray] tl25 (bpc rfl bp0) rfl rfl (by decide) (by decide) (by decide) hS (brc ha62 br0) ?_)
                  intro v65 M65 w64 hx65 hv65 hS
                  replace hcx1 := Rep.mono hx65.1 hcx1
                  replace hv14 := repL.mono hx65.1 hv14
                  replace hv60 := repL.mono hx65.1 hv60
                  replace hv61 := repL.mono hx65.1 hv61
                  replace ha62 := Rep.mono hx65.1 ha62
                  replace hE := Mm.ext.trans hE hx65
                  replace hF18 := Mm.ext.trans hF18 hx65
                  replace hF27 := Mm.ext.trans hF27 hx65
                  obtain ⟨l68, hr67, hz⟩ := bind_ok hz
                  obtain ⟨hy67, hs67⟩ := app_some hr67
                  refine WL_c (O_app (α := GFrame) (j := 0) tp25 hS rfl rfl rfl hv14 hv65 hy67 ?_)
                  intro v67 M67 w66 hx67 hv67 hS
                  rw [← hs67] at hv67
                  clear hr67 hs67
                  replace hcx1 := Rep.mono hx67.1 hcx1
                  replace hv14 := repL.mono hx67.1 hv14
                  replace hv60 := repL.mono hx67.1 hv60
                  replace hv61 := repL.mono hx67.1 hv61
                  replace ha62 := Rep.mono hx67.1 ha62
                  replace hv65 := repL.mono hx67.1 hv65
                  replace hE := Mm.ext.trans hE hx67
                  replace hF18 := Mm.ext.trans hF18 hx67
                  replace hF27 := Mm.ext.trans hF27 hx67
                  replace hS : St w noX M67 [.row v67 38 7, .box b4 cx1 31] w66 := hS
                  refine WL_y (Y_assign (v67) rfl) ?_
                  refine WL_nil (nm_blk ?_)
                  refine (nm_blk ?_)
                  refine (nm_then ?_)
                  exact ⟨M67, v67, l68, hF27, hS, hv67, hT56_1, hT56_2, rfl, hT56_30, hz⟩
                · replace hz := bif_ok_f hz hc59
                  refine W_skip (nm_blk ?_)
                  refine (nm_blk ?_)
                  refine (nm_then ?_)
                  exact ⟨M55, v14, l13, hF27, hS, hv14, hT56_1, hT56_2, hT56_5, hT56_30, hz⟩
        · rintro T23 w21 ⟨M22, v25, l24, hx26, hS, hv25, hT23_1, hT23_2, hT23_5, hT23_30, hz⟩
          replace hcx1 := Rep.mono hx26.1 hcx1
          replace hE := Mm.ext.trans hE hx26
          replace hF18 := Mm.ext.trans hF18 hx26
          rw [again_j2] at hz
          refine W_reg ?_
          refine WL_y (Y_add hT23_30 rfl) ?_
          refine WL_y (Y_move (.int .i64 (IntKind.wrap .i64 (y15 + 1))) rfl) ?_
          refine WL_nil (nm_then ?_)
          exact ⟨M22, v25, l24, (IntKind.wrap .i64 (y15 + 1)), hF18, hS, hv25, hT23_1, hT23_2, hT23_5, rfl, (by rw [← hrec16]; exact hz)⟩
      · replace hz := bif_ok_f hz hc20
        refine W_exit ?_
        refine ex_then ?_
        refine ex_then ?_
        refine ex_hit ?_
        refine (nm_then ?_)
        refine W_seq ?_
        refine W_reg ?_
        refine WL_y (Y_move (v14) hT12_5) ?_
        refine WL_y (Y_assign (v14) rfl) ?_
        refine WL_nil (nm_then ?_)
        cases hz
        exact W_ret (R_t1 rfl rfl (Gives.mk (St.dropB (St.drop hS) hb4) hE hv14))

def postBegin_j1 (fu : Nat) (x1 : GTxn) (d10 : GCase) : Option (GCase × (List GFrame) × Int) :=
    (some (goodOpsZ x1.ops)).bind fun r15 =>
    (bif !r15 then
    (some ({ begun := Zr.zd, fixed := Zr.zd, ops := Zr.zd, told := Zr.zd, known := Zr.zd, deps := Zr.zd, has := Zr.zd, values := Zr.zd } : GCase)).bind fun d18 =>
    (some d18).bind fun d21 =>
    some (d21, [], 1)
    else
    (cloneOpsD fu x1.ops).bind fun r25 =>
    (some ({ begun := true, fixed := Zr.zd, ops := r25, told := Zr.zd, known := Zr.zd, deps := Zr.zd, has := Zr.zd, values := Zr.zd } : GCase)).bind fun d27 =>
    (some d27).bind fun d32 =>
    (againD fu d32 x1.id).bind fun r40 =>
    (some d32).bind fun d44 =>
    some (d44, r40, 0))

def postBegin_j2 (fu : Nat) (x1 : GTxn) (c50 : Bool) : Option (GCase × (List GFrame) × Int) :=
    (bif c50 then
    (some ({ begun := Zr.zd, fixed := Zr.zd, ops := Zr.zd, told := Zr.zd, known := Zr.zd, deps := Zr.zd, has := Zr.zd, values := Zr.zd } : GCase)).bind fun d54 =>
    (some d54).bind fun d57 =>
    some (d57, [], 2)
    else
    postBegin_j1 fu x1 (Zr.zd : GCase))

def postBeginD (fu : Nat) (x1 : GTxn) : Option (GCase × (List GFrame) × Int) :=
    (bif decide (x1.id < 0) then
    postBegin_j2 fu x1 true
    else
    postBegin_j2 fu x1 (decide (x1.id ≥ 32)))

set_option maxRecDepth 100000 in
set_option maxHeartbeats 4000000 in
theorem postBegin_ok {M : Mm} {w : World} {cx1 : List Value} {x1 : GTxn} {fu : Nat} {r : GCase × (List GFrame) × Int} (hA : Agree M w) (hcx1 : rep M cx1 x1) (hz : postBeginD fu x1 = some r) :
    Calls Try.prog 10 #[.agg cx1.toArray] w (Gives M w (fun M' u => ∃ c0 v1, u = .tuple #[.agg c0.toArray, v1, .int .i64 r.2.2] ∧ rep M' c0 r.1 ∧ repL M' v1 r.2.1)) := by
  refine calls_W Try.func10 rfl 29 rfl rfl (by kernel_rfl) fun T hT => ?_
  have hT_0 : T 0 = .agg cx1.toArray := hT 0
  clear hT
  have hE := Mm.ext.refl w.heap.size noX M
  have hS : St w noX M [] w := St.start hA
  rw [postBeginD] at hz
  refine W_seq ?_
  refine W_reg ?_
  refine WL_c (O_box (v := .agg cx1.toArray) (cs := cx1) hT_0 rfl hS ?_)
  intro b3 w2 hb3 hS
  replace hS : St w noX M [.box b3 cx1 24] w2 := hS
  refine WL_c (O_alloc tz31 hS ?_)
  intro b5 w4 hb5 hS
  replace hS : St w noX M [.box b5 (Zr.zc GCase) 31, .box b3 cx1 24] w4 := hS
  have zb5 : rep M (Zr.zc GCase) (Zr.zd : GCase) := Zr.zr
  refine WL_y (Y_assign ((.slice none 0 0)) rfl) ?_
  refine WL_y (Y_assign (.int .i64 0) rfl) ?_
  refine WL_nil (nm_then ?_)
  refine W_seqJ (fun T' w' => ∃ M7 cs9 d10, Mm.ext w.heap.size noX M M7 ∧ St w noX M7 [.box b5 cs9 31, .box b3 cx1 24] w' ∧ rep M7 cs9 d10 ∧ T' 1 = .pointer (some ⟨b3, 0, none⟩) ∧ T' 2 = .pointer (some ⟨b5, 0, none⟩) ∧ postBegin_j1 fu x1 d10 = some r) ?_ ?_
  · have hF46 := Mm.ext.refl w.heap.size noX M
    refine W_seqJ (fun T' w' => ∃ M48 c50, Mm.ext w.heap.size noX M M48 ∧ St w noX M48 [.box b5 (Zr.zc GCase) 31, .box b3 cx1 24] w' ∧ T' 1 = .pointer (some ⟨b3, 0, none⟩) ∧ T' 2 = .pointer (some ⟨b5, 0, none⟩) ∧ T' 13 = .bool c50 ∧ postBegin_j2 fu x1 c50 = some r) ?_ ?_
    · have hF58 := Mm.ext.refl w.heap.size noX M
      refine W_reg ?_
      refine WL_y (Y_fa fa24_0 rfl) ?_
      refine WL_y (Y_ld1 (.int .i64 x1.id) ts3 rfl (hS.bvB 1 rfl) (GTxn.p0 (rep_root (k := 2) rfl hcx1))) ?_
      refine WL_y (Y_lss rfl rfl) ?_
      refine WL_y (Y_move (.bool (decide (x1.id < 0))) rfl) ?_
      rcases Bool.eq_false_or_eq_true (decide (x1.id < 0)) with hc59 | hc59
      · replace hz := bif_ok_t hz hc59
        refine WL_s (j := 3) rfl (bt hc59 rfl) rfl ?_
        refine WL_s (j := 3) rfl (bt hc59 rfl) rfl ?_
        refine WL_s (j := 3) rfl (bt hc59 rfl) rfl ?_
        refine WL_y (Y_pick_t (.bool true) (bt hc59 rfl) rfl) ?_
        refine WL_nil (nm_then ?_)
        exact ⟨M, true, hF58, hS, rfl, rfl, rfl, hz⟩
      · replace hz := bif_ok_f hz hc59
        refine WL_gy rfl (bf hc59 rfl) (Y_fa fa24_0 rfl) ?_
        refine WL_gy rfl (bf hc59 rfl) (Y_ld1 (.int .i64 x1.id) ts3 rfl (hS.bvB 1 rfl) (GTxn.p0 (rep_root (k := 2) rfl hcx1))) ?_
        refine WL_gy rfl (bf hc59 rfl) (Y_geq rfl rfl) ?_
        refine WL_y (Y_pick_f (.bool (decide (x1.id ≥ 32))) (bf hc59 rfl) rfl) ?_
        refine WL_nil (nm_then ?_)
        exact ⟨M, (decide (x1.id ≥ 32)), hF58, hS, rfl, rfl, rfl, hz⟩
    · rintro T49 w47 ⟨M48, c50, hx51, hS, hT49_1, hT49_2, hT49_13, hz⟩
      replace hcx1 := Rep.mono hx51.1 hcx1
      replace zb5 := Rep.mono hx51.1 zb5
      replace hE := Mm.ext.trans hE hx51
      replace hF46 := Mm.ext.trans hF46 hx51
      rw [postBegin_j2] at hz
      refine W_cond hT49_13 (fun hc52 => ?_) (fun hc52 => ?_)
      · replace hz := bif_ok_t hz hc52
        refine W_seq ?_
        refine W_reg ?_
        obtain ⟨d54, hd53, hz⟩ := bind_ok hz
        obtain ⟨cs53, hf53, ha53⟩ : ∃ cs, fillZ (([(0, 1), (1, 1), (2, 1), (3, 6), (9, 6), (15, 1), (16, 4), (20, 4)] : List (Nat × Nat))[·]?) (Zr.zc GCase) [] = some cs ∧ rep M48 cs d54 := ⟨_, fz_nil, rep_eq (x := ({ begun := Zr.zd, fixed := Zr.zd, ops := Zr.zd, told := Zr.zd, known := Zr.zd, deps := Zr.zd, has := Zr.zd, values := Zr.zd } : GCase)) (Zr.zr : rep M48 (Zr.zc GCase) (Zr.zd : GCase)) hd53⟩
        refine WL_y (Y_build [] tb31 bp0 hf53) ?_
        have hw56 : (cs53 : List Value).length = 24 := Rep.len ha53
        have hl56 : ((Zr.zc GCase)).length = 24 := Rep.len zb5
        obtain ⟨d57, hd56, hz⟩ := bind_ok hz
        have hb56 : rep M48 (pt (Zr.zc GCase) (0) cs53) d57 := rep_eq (rep_whole (k := 24) (by rw [pt_length (by omega)]; exact hl56) (rep_leaf rfl ha53 (by omega))) hd56
        generalize hg56 : (pt (Zr.zc GCase) (0) cs53) = cs56 at hb56
        refine WL_c (O_st (j := 0) (v := .agg cs53.toArray) (ws := cs53) hS rfl (by kernel_rfl) hT49_2 rfl rfl hw56 (Rep.one ha53) (by omega) ?_)
        rw [hg56]
        clear hg56
        intro w55 hS
        replace hS : St w noX M48 [.box b5 cs56 31, .box b3 cx1 24] w55 := hS
        refine WL_y (Y_assign ((.slice none 0 0)) rfl) ?_
        refine WL_y (Y_assign (.int .i64 2) rfl) ?_
        refine WL_nil (nm_then ?_)
        cases hz
        exact W_ret (rt_then (R_ctt (j := 0) rfl hT49_2 rfl rfl (by rw [Rep.len hb56]; exact ta31) hS rfl (Gives.mk (St.dropB (St.dropB hS hb5) hb3) hE ⟨_, _, rfl, hb56, (repL_nil _)⟩)))
      · replace hz := bif_ok_f hz hc52
        refine W_skip (nm_then ?_)
        exact ⟨M48, (Zr.zc GCase), (Zr.zd : GCase), hF46, hS, zb5, hT49_1, hT49_2, hz⟩
  · rintro T8 w6 ⟨M7, cs9, d10, hx11, hS, hb9, hT8_1, hT8_2, hz⟩
    replace hcx1 := Rep.mono hx11.1 hcx1
    replace hE := Mm.ext.trans hE hx11
    rw [postBegin_j1] at hz
    refine W_seq ?_
    refine W_seq ?_
    refine W_reg ?_
    refine WL_y (Y_fa fa24_1 hT8_1) ?_
    obtain ⟨v12, ev12, hv12⟩ := (GTxn.p1 (rep_root (k := 2) rfl hcx1))
    refine WL_y (Y_ld1 v12 ts22 rfl (hS.bvB 1 rfl) ev12) ?_
    obtain ⟨r15, hr14, hz⟩ := bind_ok hz
    replace hr14 := Option.some.inj hr14
    refine WL_c (O_val (vs := [v12]) (v := .bool r15) cb38 (args1 rfl) hS (hr14 ▸ (c_goodOps hS.agree hv12)) ?_)
    intro w13 hS
    refine WL_y (Y_not rfl) ?_
    refine WL_nil (nm_then ?_)
    refine W_cond rfl (fun hc16 => ?_) (fun hc16 => ?_)
    · replace hz := bif_ok_t hz hc16
      refine W_seq ?_
      refine W_reg ?_
      obtain ⟨d18, hd17, hz⟩ := bind_ok hz
      obtain ⟨cs17, hf17, ha17⟩ : ∃ cs, fillZ (([(0, 1), (1, 1), (2, 1), (3, 6), (9, 6), (15, 1), (16, 4), (20, 4)] : List (Nat × Nat))[·]?) (Zr.zc GCase) [] = some cs ∧ rep M7 cs d18 := ⟨_, fz_nil, rep_eq (x := ({ begun := Zr.zd, fixed := Zr.zd, ops := Zr.zd, told := Zr.zd, known := Zr.zd, deps := Zr.zd, has := Zr.zd, values := Zr.zd } : GCase)) (Zr.zr : rep M7 (Zr.zc GCase) (Zr.zd : GCase)) hd17⟩
      refine WL_y (Y_build [] tb31 bp0 hf17) ?_
      have hw20 : (cs17 : List Value).length = 24 := Rep.len ha17
      have hl20 : (cs9).length = 24 := Rep.len hb9
      obtain ⟨d21, hd20, hz⟩ := bind_ok hz
      have hb20 : rep M7 (pt cs9 (0) cs17) d21 := rep_eq (rep_whole (k := 24) (by rw [pt_length (by omega)]; exact hl20) (rep_leaf rfl ha17 (by omega))) hd20
      generalize hg20 : (pt cs9 (0) cs17) = cs20 at hb20
      refine WL_c (O_st (j := 0) (v := .agg cs17.toArray) (ws := cs17) hS rfl (by kernel_rfl) hT8_2 rfl rfl hw20 (Rep.one ha17) (by omega) ?_)
      rw [hg20]
      clear hg20
      intro w19 hS
      replace hS : St w noX M7 [.box b5 cs20 31, .box b3 cx1 24] w19 := hS
      refine WL_y (Y_assign ((.slice none 0 0)) rfl) ?_
      refine WL_y (Y_assign (.int .i64 1) rfl) ?_
      refine WL_nil (nm_then ?_)
      cases hz
      exact W_ret (rt_then (R_ctt (j := 0) rfl hT8_2 rfl rfl (by rw [Rep.len hb20]; exact ta31) hS rfl (Gives.mk (St.dropB (St.dropB hS hb5) hb3) hE ⟨_, _, rfl, hb20, (repL_nil _)⟩)))
    · replace hz := bif_ok_f hz hc16
      refine W_skip (nm_then ?_)
      refine W_seq ?_
      refine W_reg ?_
      refine WL_y (Y_fa fa24_1 hT8_1) ?_
      obtain ⟨v22, ev22, hv22⟩ := (GTxn.p1 (rep_root (k := 2) rfl hcx1))
      refine WL_y (Y_ld1 v22 ts22 rfl (hS.bvB 1 rfl) ev22) ?_
      obtain ⟨r25, hr24, hz⟩ := bind_ok hz
      refine WL_c (O_mem (vs := [v22]) (rv := (fun M' u => repL M' u r25)) cb39 (args1 rfl) hS (cloneOps_ok hS.agree hv22 hr24) ?_)
      intro u24 M24 w23 hx24 hu24 hS
      have f24 : repL M24 u24 r25 := hu24
      replace hcx1 := Rep.mono hx24.1 hcx1
      replace hb9 := Rep.mono hx24.1 hb9
      replace hv22 := repL.mono hx24.1 hv22
      replace hE := Mm.ext.trans hE hx24
      have k26_0 := GCase.w0 (Zr.zr : rep M24 (Zr.zc GCase) (Zr.zd : GCase)) (show rep M24 [Value.bool true] (true : Bool) from rfl)
      have k26_1 := GCase.w2 k26_0 (repL_rep f24)
      obtain ⟨d27, hd26, hz⟩ := bind_ok hz
      obtain ⟨cs26, hf26, ha26⟩ : ∃ cs, fillZ (([(0, 1), (1, 1), (2, 1), (3, 6), (9, 6), (15, 1), (16, 4), (20, 4)] : List (Nat × Nat))[·]?) (Zr.zc GCase) [(0, .bool true), (2, u24)] = some cs ∧ rep M24 cs d27 := ⟨_, (fz_cons (Zr.zr : rep M24 (Zr.zc GCase) (Zr.zd : GCase)) rfl rfl (Rep.len (show rep M24 [Value.bool true] (true : Bool) from rfl)) (by decide) (fz_cons k26_0 rfl (repL_cells f24) (Rep.len (repL_rep f24)) (by decide) fz_nil)), rep_eq (x := ({ begun := true, fixed := Zr.zd, ops := r25, told := Zr.zd, known := Zr.zd, deps := Zr.zd, has := Zr.zd, values := Zr.zd } : GCase)) k26_1 hd26⟩
      refine WL_y (Y_build [(0, .bool true), (2, u24)] tb31 (bpc rfl (bpc rfl bp0)) hf26) ?_
      refine WL_c (O_alloc tz31 hS ?_)
      intro b29 w28 hb29 hS
      replace hS : St w noX M24 [.box b29 (Zr.zc GCase) 31, .box b5 cs9 31, .box b3 cx1 24] w28 := hS
      have zb29 : rep M24 (Zr.zc GCase) (Zr.zd : GCase) := Zr.zr
      have hw31 : (cs26 : List Value).length = 24 := Rep.len ha26
      have hl31 : ((Zr.zc GCase)).length = 24 := Rep.len zb29
      obtain ⟨d32, hd31, hz⟩ := bind_ok hz
      have hb31 : rep M24 (pt (Zr.zc GCase) (0) cs26) d32 := rep_eq (rep_whole (k := 24) (by rw [pt_length (by omega)]; exact hl31) (rep_leaf rfl ha26 (by omega))) hd31
      generalize hg31 : (pt (Zr.zc GCase) (0) cs26) = cs31 at hb31
      refine WL_c (O_st (j := 0) (v := .agg cs26.toArray) (ws := cs26) hS rfl (by kernel_rfl) rfl rfl rfl hw31 (Rep.one ha26) (by omega) ?_)
      rw [hg31]
      clear hg31
      intro w30 hS
      replace hS : St w noX M24 [.box b29 cs31 31, .box b5 cs9 31, .box b3 cx1 24] w30 := hS
      refine WL_nil (nm_then ?_)
      refine W_seq ?_
      refine W_drawB (Rd M24 [.box b29 cs31 31, .box b3 cx1 24]) (inL []) mixed hS fun w33 hS => ?_
      have hG34 := Mm.ext.refl w.heap.size noX M24
      have hR35 : Rd M24 [.box b29 cs31 31, .box b3 cx1 24] w33 := Rd.of hS hG34 (by simp)
      have ha36 := (rep_root (k := 24) rfl hb31)
      refine WB_ld (i := 0) rfl (by kernel_rfl) rfl (inL_lt rfl) (by kernel_rfl) (by kernel_rfl) (Y_ldn ta31 rfl (bvR 0 rfl) (Rep.len ha36)) hR35 ?_
      have ha37 := (rep_root (k := 24) rfl hb31)
      refine WB_ld (i := 1) rfl (by kernel_rfl) rfl (inL_lt rfl) (by kernel_rfl) (by kernel_rfl) (Y_ldn ta31 rfl (bvR 0 rfl) (Rep.len ha37)) hR35 ?_
      refine WB_y (i := 2) rfl (by kernel_rfl) rfl (Y_fa fa24_0 hT8_1) (fun _ => hR35) ?_
      refine WB_ld (i := 3) rfl (by kernel_rfl) rfl (inL_lt rfl) (by kernel_rfl) (by kernel_rfl) (Y_ld1 (.int .i64 x1.id) ts3 rfl (bvR 1 rfl) (GTxn.p0 (rep_root (k := 2) rfl hcx1))) hR35 ?_
      obtain ⟨r40, hr39, hz⟩ := bind_ok hz
      refine WB_one (i := 4) (by kernel_rfl) rfl (O_mem (vs := [.agg (sl cs31 (0) 24).toArray, .int .i64 x1.id]) (rv := (fun M' u => repL M' u r40)) cb40 (args2 rfl rfl) hS (again_ok hS.agree ha37 hr39) ?_)
      intro u39 M39 w38 hx39 hu39 hS
      have f39 : repL M39 u39 r40 := hu39
      replace hcx1 := Rep.mono hx39.1 hcx1
      replace hb9 := Rep.mono hx39.1 hb9
      replace hb31 := Rep.mono hx39.1 hb31
      replace ha36 := Rep.mono hx39.1 ha36
      replace ha37 := Rep.mono hx39.1 ha37
      replace hE := Mm.ext.trans hE hx39
      replace hG34 := Mm.ext.trans hG34 hx39
      have hR41 : Rd M24 [.box b29 cs31 31, .box b3 cx1 24] w38 := Rd.of hS hG34 (by simp)
      refine ⟨fun _ => hR41, ?_⟩
      have hw43 : ((sl cs31 (0) 24) : List Value).length = 24 := Rep.len ha36
      have hl43 : (cs9).length = 24 := Rep.len hb9
      obtain ⟨d44, hd43, hz⟩ := bind_ok hz
      have hb43 : rep M39 (pt cs9 (0) (sl cs31 (0) 24)) d44 := rep_eq (rep_whole (k := 24) (by rw [pt_length (by omega)]; exact hl43) (rep_leaf rfl ha36 (by omega))) hd43
      generalize hg43 : (pt cs9 (0) (sl cs31 (0) 24)) = cs43 at hb43
      refine WB_one (i := 5) (by kernel_rfl) rfl (O_st (j := 1) (v := .agg (sl cs31 (0) 24).toArray) (ws := (sl cs31 (0) 24)) hS rfl (by kernel_rfl) hT8_2 rfl rfl hw43 (Rep.one ha36) (by omega) ?_)
      rw [hg43]
      clear hg43
      intro w42 hS
      replace hS : St w noX M39 [.box b29 cs31 31, .box b5 cs43 31, .box b3 cx1 24] w42 := hS
      have hR45 : Rd M24 [.box b29 cs31 31, .box b3 cx1 24] w42 := Rd.of hS hG34 (by simp)
      refine ⟨fun _ => hR45, ?_⟩
      refine WB_y (i := 6) rfl (by kernel_rfl) rfl (Y_assign (u39) rfl) (fun _ => hR45) ?_
      refine WB_y (i := 7) rfl (by kernel_rfl) rfl (Y_assign (.int .i64 0) rfl) (fun _ => hR45) ?_
      refine WB_done (by kernel_rfl) (nm_then ?_)
      cases hz
      exact W_ret (R_ctt (j := 1) rfl hT8_2 rfl rfl (by rw [Rep.len hb43]; exact ta31) hS rfl (Gives.mk (St.dropB (St.dropB (St.dropB hS hb29) hb5) hb3) hE ⟨_, _, rfl, hb43, f39⟩))

def postResult_l1 (fu : Nat) (x1 : GCase) : Nat → Int → Option ((List Int) × Bool)
  | 0, _ => none
  | n + 1, y11 =>
    (bif decide (y11 < 2) then
    (wholeD fu x1 y11).bind fun r20 =>
    (bif !r20 then
    some ([], false)
    else
    (postResult_l1 fu x1 n) (IntKind.wrap .i64 (y11 + 1)))
    else
    (cutL x1.values.toList none (some (x1.ops.length : Int))).bind fun l25 =>
    (cloneIntsD fu l25).bind fun r28 =>
    some (r28, true))

def postResult_j1 (fu : Nat) (x1 : GCase) : Option ((List Int) × Bool) :=
    postResult_l1 fu x1 fu 0

def postResult_j2 (fu : Nat) (x1 : GCase) (c34 : Bool) : Option ((List Int) × Bool) :=
    (bif c34 then
    some ([], false)
    else
    postResult_j1 fu x1)

def postResultD (fu : Nat) (x1 : GCase) : Option ((List Int) × Bool) :=
    (bif !x1.begun then
    postResult_j2 fu x1 true
    else
    (postGoodD fu x1).bind fun r42 =>
    postResult_j2 fu x1 (!r42))

set_option maxRecDepth 100000 in
set_option maxHeartbeats 4000000 in
theorem postResult_ok {M : Mm} {w : World} {cx1 : List Value} {x1 : GCase} {fu : Nat} {r : (List Int) × Bool} (hA : Agree M w) (hcx1 : rep M cx1 x1) (hz : postResultD fu x1 = some r) :
    Calls Try.prog 13 #[.agg cx1.toArray] w (Gives M w (fun M' u => ∃ v0, u = .tuple #[v0, .bool r.2] ∧ repL M' v0 r.1)) := by
  refine calls_W Try.func13 rfl 27 rfl rfl (by kernel_rfl) fun T hT => ?_
  have hT_0 : T 0 = .agg cx1.toArray := hT 0
  clear hT
  have hE := Mm.ext.refl w.heap.size noX M
  have hS : St w noX M [] w := St.start hA
  rw [postResultD] at hz
  refine W_seq ?_
  refine W_reg ?_
  refine WL_c (O_box (v := .agg cx1.toArray) (cs := cx1) hT_0 rfl hS ?_)
  intro b3 w2 hb3 hS
  replace hS : St w noX M [.box b3 cx1 31] w2 := hS
  refine WL_y (Y_assign ((.slice none 0 0)) rfl) ?_
  refine WL_y (Y_assign (.bool false) rfl) ?_
  refine WL_nil (nm_then ?_)
  refine W_seqJ (fun T' w' => ∃ M5, Mm.ext w.heap.size noX M M5 ∧ St w noX M5 [.box b3 cx1 31] w' ∧ T' 1 = .pointer (some ⟨b3, 0, none⟩) ∧ postResult_j1 fu x1 = some r) ?_ ?_
  · have hF30 := Mm.ext.refl w.heap.size noX M
    refine W_seqJ (fun T' w' => ∃ M32 c34, Mm.ext w.heap.size noX M M32 ∧ St w noX M32 [.box b3 cx1 31] w' ∧ T' 1 = .pointer (some ⟨b3, 0, none⟩) ∧ T' 12 = .bool c34 ∧ postResult_j2 fu x1 c34 = some r) ?_ ?_
    · have hF37 := Mm.ext.refl w.heap.size noX M
      refine W_reg ?_
      refine WL_y (Y_fa fa31_0 rfl) ?_
      refine WL_y (Y_ld1 (.bool x1.begun) ts4 rfl (hS.bvB 0 rfl) (GCase.p0 (rep_root (k := 24) rfl hcx1))) ?_
      refine WL_y (Y_not rfl) ?_
      refine WL_y (Y_move (.bool (!x1.begun)) rfl) ?_
      rcases Bool.eq_false_or_eq_true (!x1.begun) with hc38 | hc38
      · replace hz := bif_ok_t hz hc38
        refine WL_s (j := 3) rfl (bt hc38 rfl) rfl ?_
        refine WL_s (j := 3) rfl (bt hc38 rfl) rfl ?_
        refine WL_s (j := 3) rfl (bt hc38 rfl) rfl ?_
        refine WL_y (Y_pick_t (.bool true) (bt hc38 rfl) rfl) ?_
        refine WL_nil (nm_then ?_)
        exact ⟨M, true, hF37, hS, rfl, rfl, hz⟩
      · replace hz := bif_ok_f hz hc38
        have ha39 := (rep_root (k := 24) rfl hcx1)
        refine WL_gy rfl (bf hc38 rfl) (Y_ldn ta31 rfl (hS.bvB 0 rfl) (Rep.len ha39)) ?_
        obtain ⟨r42, hr41, hz⟩ := bind_ok hz
        refine WL_g rfl (bf hc38 rfl) (O_val (vs := [.agg (sl cx1 (0) 24).toArray]) (v := .bool r42) cb41 (args1 rfl) hS (postGood_ok hS.agree ha39 hr41) ?_)
        intro w40 hS
        refine WL_gy rfl (bf hc38 rfl) (Y_not rfl) ?_
        refine WL_y (Y_pick_f (.bool (!r42)) (bf hc38 rfl) rfl) ?_
        refine WL_nil (nm_then ?_)
        exact ⟨M, (!r42), hF37, hS, rfl, rfl, hz⟩
    · rintro T33 w31 ⟨M32, c34, hx35, hS, hT33_1, hT33_12, hz⟩
      replace hcx1 := Rep.mono hx35.1 hcx1
      replace hE := Mm.ext.trans hE hx35
      replace hF30 := Mm.ext.trans hF30 hx35
      rw [postResult_j2] at hz
      refine W_cond hT33_12 (fun hc36 => ?_) (fun hc36 => ?_)
      · replace hz := bif_ok_t hz hc36
        refine W_seq ?_
        refine W_reg ?_
        refine WL_y (Y_assign ((.slice none 0 0)) rfl) ?_
        refine WL_y (Y_assign (.bool false) rfl) ?_
        refine WL_nil (nm_then ?_)
        cases hz
        exact W_ret (rt_then (R_t2 rfl rfl rfl (Gives.mk (St.dropB hS hb3) hE ⟨_, rfl, (repL_nil _)⟩)))
      · replace hz := bif_ok_f hz hc36
        refine W_skip (nm_then ?_)
        exact ⟨M32, hF30, hS, hT33_1, hz⟩
  · rintro T6 w4 ⟨M5, hx7, hS, hT6_1, hz⟩
    replace hcx1 := Rep.mono hx7.1 hcx1
    replace hE := Mm.ext.trans hE hx7
    rw [postResult_j1] at hz
    refine W_seq ?_
    refine W_seq ?_
    refine W_reg ?_
    refine WL_y (Y_move (.int .i64 0) rfl) ?_
    refine WL_nil (nm_then ?_)
    refine W_block ?_
    refine W_loop (fun k13 T' w' => ∃ M9 y11, Mm.ext w.heap.size noX M5 M9 ∧ St w noX M9 [.box b3 cx1 31] w' ∧ T' 1 = .pointer (some ⟨b3, 0, none⟩) ∧ T' 13 = .int .i64 y11 ∧ postResult_l1 fu x1 k13 y11 = some r) fu ?_ ?_ ?_
    · exact ⟨M5, (0 : Int), (Mm.ext.refl _ _ _), hS, hT6_1, rfl, hz⟩
    · rintro T' w' ⟨_, _, _, _, _, _, hz⟩
      rw [postResult_l1] at hz
      cases hz
    · intro k13
      rintro T10 w8 ⟨M9, y11, hx15, hS, hT10_1, hT10_13, hz⟩
      replace hcx1 := Rep.mono hx15.1 hcx1
      replace hE := Mm.ext.trans hE hx15
      have hF14 := hx15
      rw [postResult_l1] at hz
      obtain ⟨rec12, hrec12⟩ : ∃ f, f = postResult_l1 fu x1 k13 := ⟨_, rfl⟩
      rw [← hrec12] at hz
      refine W_seq ?_
      refine W_reg ?_
      refine WL_y (Y_lss hT10_13 rfl) ?_
      refine WL_nil (nm_then ?_)
      refine W_seq ?_
      refine W_cond rfl (fun hc16 => ?_) (fun hc16 => ?_)
      · replace hz := bif_ok_t hz hc16
        refine W_skip (nm_then ?_)
        refine W_seq ?_
        refine W_block ?_
        refine W_seq ?_
        refine W_reg ?_
        refine WL_y (Y_move (.int .i64 y11) hT10_13) ?_
        refine WL_y (Y_assign (.int .i64 y11) rfl) ?_
        refine WL_nil (nm_then ?_)
        refine W_seq ?_
        refine W_reg ?_
        have ha17 := (rep_root (k := 24) rfl hcx1)
        refine WL_y (Y_ldn ta31 hT10_1 (hS.bvB 0 rfl) (Rep.len ha17)) ?_
        refine WL_y (Y_move (.int .i64 y11) rfl) ?_
        obtain ⟨r20, hr19, hz⟩ := bind_ok hz
        refine WL_c (O_val (vs := [.agg (sl cx1 (0) 24).toArray, .int .i64 y11]) (v := .bool r20) cb49 (args2 rfl rfl) hS (whole_ok hS.agree ha17 hr19) ?_)
        intro w18 hS
        refine WL_y (Y_not rfl) ?_
        refine WL_nil (nm_then ?_)
        refine W_cond rfl (fun hc21 => ?_) (fun hc21 => ?_)
        · replace hz := bif_ok_t hz hc21
          refine W_seq ?_
          refine W_reg ?_
          refine WL_y (Y_assign ((.slice none 0 0)) rfl) ?_
          refine WL_y (Y_assign (.bool false) rfl) ?_
          refine WL_nil (nm_then ?_)
          cases hz
          exact W_ret (rt_blk (rt_then (rt_then (rt_blk (rt_then (R_t2 rfl rfl rfl (Gives.mk (St.dropB hS hb3) hE ⟨_, rfl, (repL_nil _)⟩)))))))
        · replace hz := bif_ok_f hz hc21
          refine W_skip (nm_blk ?_)
          refine (nm_then ?_)
          refine W_reg ?_
          refine WL_y (Y_add hT10_13 rfl) ?_
          refine WL_y (Y_move (.int .i64 (IntKind.wrap .i64 (y11 + 1))) rfl) ?_
          refine WL_nil (nm_then ?_)
          exact ⟨M9, (IntKind.wrap .i64 (y11 + 1)), hF14, hS, hT10_1, rfl, (by rw [← hrec12]; exact hz)⟩
      · replace hz := bif_ok_f hz hc16
        refine W_exit ?_
        refine ex_then ?_
        refine ex_then ?_
        refine ex_hit ?_
        refine (nm_then ?_)
        refine W_seq ?_
        refine W_reg ?_
        refine WL_y (Y_fa fa31_7 hT10_1) ?_
        refine WL_y (Y_fa fa31_2 hT10_1) ?_
        obtain ⟨v22, ev22, hv22⟩ := (GCase.p2 (rep_root (k := 24) rfl hcx1))
        refine WL_y (Y_ld1 v22 ts22 rfl (hS.bvB 0 rfl) ev22) ?_
        obtain ⟨a23, c23, hv23, _⟩ := repL_shape hv22
        refine WL_y (Y_lenL Try.underlying22 (tr2 hv23 rfl)) ?_
        have ha24 := (GCase.p7 (rep_root (k := 24) rfl hcx1))
        have hn24 : (cx1).length = 24 := Rep.len hcx1
        obtain ⟨M24, hM24, hx24, hS⟩ := St.freeze 0 hS rfl
        replace hcx1 := Rep.mono hx24.1 hcx1
        replace hv22 := repL.mono hx24.1 hv22
        replace ha24 := Rep.mono hx24.1 ha24
        replace hE := Mm.ext.trans hE hx24
        replace hF14 := Mm.ext.trans hF14 hx24
        replace hS : St w noX M24 [] w8 := hS
        have hs24 : repL M24 (.slice (some ⟨b3, 0 + 20, none⟩) 4 4) x1.values.toList := repL_arr hM24 (show _ + 4 * 1 ≤ _ by omega) ha24 (by decide)
        obtain ⟨l25, hx24, hz⟩ := bind_ok hz
        obtain ⟨⟨pp24, qq24⟩, hc24, hx24⟩ := Option.map_eq_some_iff.1 hx24
        have h24l : repL _ (cutV (.slice (some ⟨b3, 0 + 20, none⟩) 4 4) 1 pp24 qq24) l25 := hx24 ▸ repL_cut hs24 hc24
        rw [show x1.values.toList.length = 4 from by simp] at hc24
        refine WL_y (Y_cutA (l := none) (h := (some (x1.ops.length : Int))) ia29 rfl evn (evs rfl) hc24) ?_
        obtain ⟨r28, hr27, hz⟩ := bind_ok hz
        refine WL_c (O_lend (vs := [(cutV (.slice (some ⟨b3, 0 + 20, none⟩) 4 4) 1 pp24 qq24)]) (L := []) (R := []) (rv := (fun M' u L' => ∃ v0, u = v0 ∧ L' = [.row v0 3 1] ∧ repL M' v0 r28)) cb50 (args1 rfl) hS (hS.sel [] (by decide) rfl) (fun hS => cloneInts_ok hS.agree h24l hr27) ?_)
        rintro u27 M27 w26 L27 hx27 ⟨v0_27, rfl, hL27, f27_0⟩ hS
        replace hS := hS _ hL27
        replace hv22 := repL.mono hx27.1 hv22
        replace h24l := repL.mono hx27.1 h24l
        replace hE := Mm.ext.trans hE hx27
        replace hF14 := Mm.ext.trans hF14 hx27
        replace hS : St w noX M27 [.row u27 3 1] w26 := hS
        refine WL_y (Y_assign (u27) rfl) ?_
        refine WL_y (Y_assign (.bool true) rfl) ?_
        refine WL_nil (nm_then ?_)
        cases hz
        exact W_ret (R_t2 rfl rfl rfl (Gives.mk (St.drop hS) hE ⟨_, rfl, f27_0⟩))

def sameFrame_j1 (c10 : Bool) : Option Bool :=
    some c10

def sameFrameD (fu : Nat) (x1 : GFrame) (x2 : GFrame) : Option Bool :=
    (bif x1.kind == x2.kind then
    (bif x1.node == x2.node then
    (bif x1.id == x2.id then
    (sameOpsD fu x1.ops x2.ops).bind fun r20 =>
    (bif r20 then
    (some (sameZ x1.deps x2.deps)).bind fun r26 =>
    (bif r26 then
    (some (sameZ x1.at_ x2.at_)).bind fun r32 =>
    (bif r32 then
    (some (sameZ x1.vals x2.vals)).bind fun r38 =>
    sameFrame_j1 r38
    else
    sameFrame_j1 false)
    else
    sameFrame_j1 false)
    else
    sameFrame_j1 false)
    else
    sameFrame_j1 false)
    else
    sameFrame_j1 false)
    else
    sameFrame_j1 false)

set_option maxRecDepth 100000 in
set_option maxHeartbeats 4000000 in
theorem sameFrame_ok {M : Mm} {w : World} {cx1 : List Value} {cx2 : List Value} {x1 : GFrame} {x2 : GFrame} {fu : Nat} {r : Bool} (hA : Agree M w) (hcx1 : rep M cx1 x1) (hcx2 : rep M cx2 x2) (hz : sameFrameD fu x1 x2 = some r) :
    Calls Try.prog 23 #[.agg cx1.toArray, .agg cx2.toArray] w (GivesV w (.bool r)) := by
  refine calls_W Try.func23 rfl 52 rfl rfl (by kernel_rfl) fun T hT => ?_
  have hT_0 : T 0 = .agg cx1.toArray := hT 0
  have hT_1 : T 1 = .agg cx2.toArray := hT 1
  clear hT
  have hE := Mm.ext.refl w.heap.size noX M
  have hS : St w noX M [] w := St.start hA
  rw [sameFrameD] at hz
  refine W_seq ?_
  refine W_reg ?_
  refine WL_c (O_box (v := .agg cx1.toArray) (cs := cx1) hT_0 rfl hS ?_)
  intro b4 w3 hb4 hS
  replace hS : St w noX M [.box b4 cx1 38] w3 := hS
  refine WL_c (O_box (v := .agg cx2.toArray) (cs := cx2) hT_1 rfl hS ?_)
  intro b6 w5 hb6 hS
  replace hS : St w noX M [.box b6 cx2 38, .box b4 cx1 38] w5 := hS
  refine WL_y (Y_assign (.bool false) rfl) ?_
  refine WL_nil (nm_then ?_)
  refine W_seqJ (fun T' w' => ∃ M8 c10, Mm.ext w.heap.size noX M M8 ∧ St w noX M8 [.box b6 cx2 38, .box b4 cx1 38] w' ∧ T' 4 = .bool c10 ∧ sameFrame_j1 c10 = some r) ?_ ?_
  · have hF12 := Mm.ext.refl w.heap.size noX M
    refine W_reg ?_
    refine WL_y (Y_fa fa38_0 rfl) ?_
    refine WL_y (Y_ld1 (.int .i64 x1.kind) ts3 rfl (hS.bvB 1 rfl) (GFrame.p0 (rep_root (k := 7) rfl hcx1))) ?_
    refine WL_y (Y_fa fa38_0 rfl) ?_
    refine WL_y (Y_ld1 (.int .i64 x2.kind) ts3 rfl (hS.bvB 0 rfl) (GFrame.p0 (rep_root (k := 7) rfl hcx2))) ?_
    refine WL_y (Y_eql rfl rfl) ?_
    refine WL_y (Y_move (.bool (x1.kind == x2.kind)) rfl) ?_
    rcases Bool.eq_false_or_eq_true (x1.kind == x2.kind) with hc13 | hc13
    · replace hz := bif_ok_t hz hc13
      refine WL_gy rfl (bt hc13 rfl) (Y_fa fa38_1 rfl) ?_
      refine WL_gy rfl (bt hc13 rfl) (Y_ld1 (.int .i64 x1.node) ts3 rfl (hS.bvB 1 rfl) (GFrame.p1 (rep_root (k := 7) rfl hcx1))) ?_
      refine WL_gy rfl (bt hc13 rfl) (Y_fa fa38_1 rfl) ?_
      refine WL_gy rfl (bt hc13 rfl) (Y_ld1 (.int .i64 x2.node) ts3 rfl (hS.bvB 0 rfl) (GFrame.p1 (rep_root (k := 7) rfl hcx2))) ?_
      refine WL_gy rfl (bt hc13 rfl) (Y_eql rfl rfl) ?_
      refine WL_y (Y_pick_t (.bool (x1.node == x2.node)) (bt hc13 rfl) rfl) ?_
      refine WL_y (Y_move (.bool (x1.node == x2.node)) rfl) ?_
      rcases Bool.eq_false_or_eq_true (x1.node == x2.node) with hc14 | hc14
      · replace hz := bif_ok_t hz hc14
        refine WL_gy rfl (bt hc14 rfl) (Y_fa fa38_2 rfl) ?_
        refine WL_gy rfl (bt hc14 rfl) (Y_ld1 (.int .i64 x1.id) ts3 rfl (hS.bvB 1 rfl) (GFrame.p2 (rep_root (k := 7) rfl hcx1))) ?_
        refine WL_gy rfl (bt hc14 rfl) (Y_fa fa38_2 rfl) ?_
        refine WL_gy rfl (bt hc14 rfl) (Y_ld1 (.int .i64 x2.id) ts3 rfl (hS.bvB 0 rfl) (GFrame.p2 (rep_root (k := 7) rfl hcx2))) ?_
        refine WL_gy rfl (bt hc14 rfl) (Y_eql rfl rfl) ?_
        refine WL_y (Y_pick_t (.bool (x1.id == x2.id)) (bt hc14 rfl) rfl) ?_
        refine WL_y (Y_move (.bool (x1.id == x2.id)) rfl) ?_
        rcases Bool.eq_false_or_eq_true (x1.id == x2.id) with hc15 | hc15
        · replace hz := bif_ok_t hz hc15
          refine WL_gy rfl (bt hc15 rfl) (Y_fa fa38_3 rfl) ?_
          obtain ⟨v16, ev16, hv16⟩ := (GFrame.p3 (rep_root (k := 7) rfl hcx1))
          refine WL_gy rfl (bt hc15 rfl) (Y_ld1 v16 ts22 rfl (hS.bvB 1 rfl) ev16) ?_
          refine WL_gy rfl (bt hc15 rfl) (Y_fa fa38_3 rfl) ?_
          obtain ⟨v17, ev17, hv17⟩ := (GFrame.p3 (rep_root (k := 7) rfl hcx2))
          refine WL_gy rfl (bt hc15 rfl) (Y_ld1 v17 ts22 rfl (hS.bvB 0 rfl) ev17) ?_
          obtain ⟨r20, hr19, hz⟩ := bind_ok hz
          refine WL_g rfl (bt hc15 rfl) (O_val (vs := [v16, v17]) (v := .bool r20) cb67 (args2 rfl rfl) hS (sameOps_ok hS.agree hv16 hv17 hr19) ?_)
          intro w18 hS
          refine WL_y (Y_pick_t (.bool r20) (bt hc15 rfl) rfl) ?_
          refine WL_y (Y_move (.bool r20) rfl) ?_
          rcases Bool.eq_false_or_eq_true r20 with hc21 | hc21
          · replace hz := bif_ok_t hz hc21
            refine WL_gy rfl (bt hc21 rfl) (Y_fa fa38_4 rfl) ?_
            obtain ⟨v22, ev22, hv22⟩ := (GFrame.p4 (rep_root (k := 7) rfl hcx1))
            refine WL_gy rfl (bt hc21 rfl) (Y_ld1 v22 ts27 rfl (hS.bvB 1 rfl) ev22) ?_
            refine WL_gy rfl (bt hc21 rfl) (Y_fa fa38_4 rfl) ?_
            obtain ⟨v23, ev23, hv23⟩ := (GFrame.p4 (rep_root (k := 7) rfl hcx2))
            refine WL_gy rfl (bt hc21 rfl) (Y_ld1 v23 ts27 rfl (hS.bvB 0 rfl) ev23) ?_
            obtain ⟨r26, hr25, hz⟩ := bind_ok hz
            replace hr25 := Option.some.inj hr25
            refine WL_g rfl (bt hc21 rfl) (O_val (vs := [v22, v23]) (v := .bool r26) cb36 (args2 rfl rfl) hS (hr25 ▸ (c_sameNumbers hS.agree hv22 hv23)) ?_)
            intro w24 hS
            refine WL_y (Y_pick_t (.bool r26) (bt hc21 rfl) rfl) ?_
            refine WL_y (Y_move (.bool r26) rfl) ?_
            rcases Bool.eq_false_or_eq_true r26 with hc27 | hc27
            · replace hz := bif_ok_t hz hc27
              refine WL_gy rfl (bt hc27 rfl) (Y_fa fa38_5 rfl) ?_
              obtain ⟨v28, ev28, hv28⟩ := (GFrame.p5 (rep_root (k := 7) rfl hcx1))
              refine WL_gy rfl (bt hc27 rfl) (Y_ld1 v28 ts27 rfl (hS.bvB 1 rfl) ev28) ?_
              refine WL_gy rfl (bt hc27 rfl) (Y_fa fa38_5 rfl) ?_
              obtain ⟨v29, ev29, hv29⟩ := (GFrame.p5 (rep_root (k := 7) rfl hcx2))
              refine WL_gy rfl (bt hc27 rfl) (Y_ld1 v29 ts27 rfl (hS.bvB 0 rfl) ev29) ?_
              obtain ⟨r32, hr31, hz⟩ := bind_ok hz
              replace hr31 := Option.some.inj hr31
              refine WL_g rfl (bt hc27 rfl) (O_val (vs := [v28, v29]) (v := .bool r32) cb36 (args2 rfl rfl) hS (hr31 ▸ (c_sameNumbers hS.agree hv28 hv29)) ?_)
              intro w30 hS
              refine WL_y (Y_pick_t (.bool r32) (bt hc27 rfl) rfl) ?_
              refine WL_y (Y_move (.bool r32) rfl) ?_
              rcases Bool.eq_false_or_eq_true r32 with hc33 | hc33
              · replace hz := bif_ok_t hz hc33
                refine WL_gy rfl (bt hc33 rfl) (Y_fa fa38_6 rfl) ?_
                obtain ⟨v34, ev34, hv34⟩ := (GFrame.p6 (rep_root (k := 7) rfl hcx1))
                refine WL_gy rfl (bt hc33 rfl) (Y_ld1 v34 ts27 rfl (hS.bvB 1 rfl) ev34) ?_
                refine WL_gy rfl (bt hc33 rfl) (Y_fa fa38_6 rfl) ?_
                obtain ⟨v35, ev35, hv35⟩ := (GFrame.p6 (rep_root (k := 7) rfl hcx2))
                refine WL_gy rfl (bt hc33 rfl) (Y_ld1 v35 ts27 rfl (hS.bvB 0 rfl) ev35) ?_
                obtain ⟨r38, hr37, hz⟩ := bind_ok hz
                replace hr37 := Option.some.inj hr37
                refine WL_g rfl (bt hc33 rfl) (O_val (vs := [v34, v35]) (v := .bool r38) cb36 (args2 rfl rfl) hS (hr37 ▸ (c_sameNumbers hS.agree hv34 hv35)) ?_)
                intro w36 hS
                refine WL_y (Y_pick_t (.bool r38) (bt hc33 rfl) rfl) ?_
                refine WL_y (Y_assign (.bool r38) rfl) ?_
                refine WL_nil (nm_then ?_)
                exact ⟨M, r38, hF12, hS, rfl, hz⟩
              · replace hz := bif_ok_f hz hc33
                refine WL_s (j := 40) rfl (bf hc33 rfl) rfl ?_
                refine WL_s (j := 40) rfl (bf hc33 rfl) rfl ?_
                refine WL_s (j := 40) rfl (bf hc33 rfl) rfl ?_
                refine WL_s (j := 40) rfl (bf hc33 rfl) rfl ?_
                refine WL_s (j := 40) rfl (bf hc33 rfl) rfl ?_
                refine WL_y (Y_pick_f (.bool false) (bf hc33 rfl) rfl) ?_
                refine WL_y (Y_assign (.bool false) rfl) ?_
                refine WL_nil (nm_then ?_)
                exact ⟨M, false, hF12, hS, rfl, hz⟩
            · replace hz := bif_ok_f hz hc27
              refine WL_s (j := 33) rfl (bf hc27 rfl) rfl ?_
              refine WL_s (j := 33) rfl (bf hc27 rfl) rfl ?_
              refine WL_s (j := 33) rfl (bf hc27 rfl) rfl ?_
              refine WL_s (j := 33) rfl (bf hc27 rfl) rfl ?_
              refine WL_s (j := 33) rfl (bf hc27 rfl) rfl ?_
              refine WL_y (Y_pick_f (.bool false) (bf hc27 rfl) rfl) ?_
              refine WL_y (Y_move (.bool false) rfl) ?_
              refine WL_s (j := 40) rfl rfl rfl ?_
              refine WL_s (j := 40) rfl rfl rfl ?_
              refine WL_s (j := 40) rfl rfl rfl ?_
              refine WL_s (j := 40) rfl rfl rfl ?_
              refine WL_s (j := 40) rfl rfl rfl ?_
              refine WL_y (Y_pick_f (.bool false) rfl rfl) ?_
              refine WL_y (Y_assign (.bool false) rfl) ?_
              refine WL_nil (nm_then ?_)
              exact ⟨M, false, hF12, hS, rfl, hz⟩
          · replace hz := bif_ok_f hz hc21
            refine WL_s (j := 26) rfl (bf hc21 rfl) rfl ?_
            refine WL_s (j := 26) rfl (bf hc21 rfl) rfl ?_
            refine WL_s (j := 26) rfl (bf hc21 rfl) rfl ?_
            refine WL_s (j := 26) rfl (bf hc21 rfl) rfl ?_
            refine WL_s (j := 26) rfl (bf hc21 rfl) rfl ?_
            refine WL_y (Y_pick_f (.bool false) (bf hc21 rfl) rfl) ?_
            refine WL_y (Y_move (.bool false) rfl) ?_
            refine WL_s (j := 33) rfl rfl rfl ?_
            refine WL_s (j := 33) rfl rfl rfl ?_
            refine WL_s (j := 33) rfl rfl rfl ?_
            refine WL_s (j := 33) rfl rfl rfl ?_
            refine WL_s (j := 33) rfl rfl rfl ?_
            refine WL_y (Y_pick_f (.bool false) rfl rfl) ?_
            refine WL_y (Y_move (.bool false) rfl) ?_
            refine WL_s (j := 40) rfl rfl rfl ?_
            refine WL_s (j := 40) rfl rfl rfl ?_
            refine WL_s (j := 40) rfl rfl rfl ?_
            refine WL_s (j := 40) rfl rfl rfl ?_
            refine WL_s (j := 40) rfl rfl rfl ?_
            refine WL_y (Y_pick_f (.bool false) rfl rfl) ?_
            refine WL_y (Y_assign (.bool false) rfl) ?_
            refine WL_nil (nm_then ?_)
            exact ⟨M, false, hF12, hS, rfl, hz⟩
        · replace hz := bif_ok_f hz hc15
          refine WL_s (j := 19) rfl (bf hc15 rfl) rfl ?_
          refine WL_s (j := 19) rfl (bf hc15 rfl) rfl ?_
          refine WL_s (j := 19) rfl (bf hc15 rfl) rfl ?_
          refine WL_s (j := 19) rfl (bf hc15 rfl) rfl ?_
          refine WL_s (j := 19) rfl (bf hc15 rfl) rfl ?_
          refine WL_y (Y_pick_f (.bool false) (bf hc15 rfl) rfl) ?_
          refine WL_y (Y_move (.bool false) rfl) ?_
          refine WL_s (j := 26) rfl rfl rfl ?_
          refine WL_s (j := 26) rfl rfl rfl ?_
          refine WL_s (j := 26) rfl rfl rfl ?_
          refine WL_s (j := 26) rfl rfl rfl ?_
          refine WL_s (j := 26) rfl rfl rfl ?_
          refine WL_y (Y_pick_f (.bool false) rfl rfl) ?_
          refine WL_y (Y_move (.bool false) rfl) ?_
          refine WL_s (j := 33) rfl rfl rfl ?_
          refine WL_s (j := 33) rfl rfl rfl ?_
          refine WL_s (j := 33) rfl rfl rfl ?_
          refine WL_s (j := 33) rfl rfl rfl ?_
          refine WL_s (j := 33) rfl rfl rfl ?_
          refine WL_y (Y_pick_f (.bool false) rfl rfl) ?_
          refine WL_y (Y_move (.bool false) rfl) ?_
          refine WL_s (j := 40) rfl rfl rfl ?_
          refine WL_s (j := 40) rfl rfl rfl ?_
          refine WL_s (j := 40) rfl rfl rfl ?_
          refine WL_s (j := 40) rfl rfl rfl ?_
          refine WL_s (j := 40) rfl rfl rfl ?_
          refine WL_y (Y_pick_f (.bool false) rfl rfl) ?_
          refine WL_y (Y_assign (.bool false) rfl) ?_
          refine WL_nil (nm_then ?_)
          exact ⟨M, false, hF12, hS, rfl, hz⟩
      · replace hz := bif_ok_f hz hc14
        refine WL_s (j := 12) rfl (bf hc14 rfl) rfl ?_
        refine WL_s (j := 12) rfl (bf hc14 rfl) rfl ?_
        refine WL_s (j := 12) rfl (bf hc14 rfl) rfl ?_
        refine WL_s (j := 12) rfl (bf hc14 rfl) rfl ?_
        refine WL_s (j := 12) rfl (bf hc14 rfl) rfl ?_
        refine WL_y (Y_pick_f (.bool false) (bf hc14 rfl) rfl) ?_
        refine WL_y (Y_move (.bool false) rfl) ?_
        refine WL_s (j := 19) rfl rfl rfl ?_
        refine WL_s (j := 19) rfl rfl rfl ?_
        refine WL_s (j := 19) rfl rfl rfl ?_
        refine WL_s (j := 19) rfl rfl rfl ?_
        refine WL_s (j := 19) rfl rfl rfl ?_
        refine WL_y (Y_pick_f (.bool false) rfl rfl) ?_
        refine WL_y (Y_move (.bool false) rfl) ?_
        refine WL_s (j := 26) rfl rfl rfl ?_
        refine WL_s (j := 26) rfl rfl rfl ?_
        refine WL_s (j := 26) rfl rfl rfl ?_
        refine WL_s (j := 26) rfl rfl rfl ?_
        refine WL_s (j := 26) rfl rfl rfl ?_
        refine WL_y (Y_pick_f (.bool false) rfl rfl) ?_
        refine WL_y (Y_move (.bool false) rfl) ?_
        refine WL_s (j := 33) rfl rfl rfl ?_
        refine WL_s (j := 33) rfl rfl rfl ?_
        refine WL_s (j := 33) rfl rfl rfl ?_
        refine WL_s (j := 33) rfl rfl rfl ?_
        refine WL_s (j := 33) rfl rfl rfl ?_
        refine WL_y (Y_pick_f (.bool false) rfl rfl) ?_
        refine WL_y (Y_move (.bool false) rfl) ?_
        refine WL_s (j := 40) rfl rfl rfl ?_
        refine WL_s (j := 40) rfl rfl rfl ?_
        refine WL_s (j := 40) rfl rfl rfl ?_
        refine WL_s (j := 40) rfl rfl rfl ?_
        refine WL_s (j := 40) rfl rfl rfl ?_
        refine WL_y (Y_pick_f (.bool false) rfl rfl) ?_
        refine WL_y (Y_assign (.bool false) rfl) ?_
        refine WL_nil (nm_then ?_)
        exact ⟨M, false, hF12, hS, rfl, hz⟩
    · replace hz := bif_ok_f hz hc13
      refine WL_s (j := 5) rfl (bf hc13 rfl) rfl ?_
      refine WL_s (j := 5) rfl (bf hc13 rfl) rfl ?_
      refine WL_s (j := 5) rfl (bf hc13 rfl) rfl ?_
      refine WL_s (j := 5) rfl (bf hc13 rfl) rfl ?_
      refine WL_s (j := 5) rfl (bf hc13 rfl) rfl ?_
      refine WL_y (Y_pick_f (.bool false) (bf hc13 rfl) rfl) ?_
      refine WL_y (Y_move (.bool false) rfl) ?_
      refine WL_s (j := 12) rfl rfl rfl ?_
      refine WL_s (j := 12) rfl rfl rfl ?_
      refine WL_s (j := 12) rfl rfl rfl ?_
      refine WL_s (j := 12) rfl rfl rfl ?_
      refine WL_s (j := 12) rfl rfl rfl ?_
      refine WL_y (Y_pick_f (.bool false) rfl rfl) ?_
      refine WL_y (Y_move (.bool false) rfl) ?_
      refine WL_s (j := 19) rfl rfl rfl ?_
      refine WL_s (j := 19) rfl rfl rfl ?_
      refine WL_s (j := 19) rfl rfl rfl ?_
      refine WL_s (j := 19) rfl rfl rfl ?_
      refine WL_s (j := 19) rfl rfl rfl ?_
      refine WL_y (Y_pick_f (.bool false) rfl rfl) ?_
      refine WL_y (Y_move (.bool false) rfl) ?_
      refine WL_s (j := 26) rfl rfl rfl ?_
      refine WL_s (j := 26) rfl rfl rfl ?_
      refine WL_s (j := 26) rfl rfl rfl ?_
      refine WL_s (j := 26) rfl rfl rfl ?_
      refine WL_s (j := 26) rfl rfl rfl ?_
      refine WL_y (Y_pick_f (.bool false) rfl rfl) ?_
      refine WL_y (Y_move (.bool false) rfl) ?_
      refine WL_s (j := 33) rfl rfl rfl ?_
      refine WL_s (j := 33) rfl rfl rfl ?_
      refine WL_s (j := 33) rfl rfl rfl ?_
      refine WL_s (j := 33) rfl rfl rfl ?_
      refine WL_s (j := 33) rfl rfl rfl ?_
      refine WL_y (Y_pick_f (.bool false) rfl rfl) ?_
      refine WL_y (Y_move (.bool false) rfl) ?_
      refine WL_s (j := 40) rfl rfl rfl ?_
      refine WL_s (j := 40) rfl rfl rfl ?_
      refine WL_s (j := 40) rfl rfl rfl ?_
      refine WL_s (j := 40) rfl rfl rfl ?_
      refine WL_s (j := 40) rfl rfl rfl ?_
      refine WL_y (Y_pick_f (.bool false) rfl rfl) ?_
      refine WL_y (Y_assign (.bool false) rfl) ?_
      refine WL_nil (nm_then ?_)
      exact ⟨M, false, hF12, hS, rfl, hz⟩
  · rintro T9 w7 ⟨M8, c10, hx11, hS, hT9_4, hz⟩
    replace hcx1 := Rep.mono hx11.1 hcx1
    replace hcx2 := Rep.mono hx11.1 hcx2
    replace hE := Mm.ext.trans hE hx11
    rw [sameFrame_j1] at hz
    cases hz
    exact W_ret (R_t1 rfl hT9_4 ⟨rfl, (St.dropB (St.dropB hS hb6) hb4).kept⟩)

def sameFrames_l1 (fu : Nat) (x1 : List GFrame) (x2 : List GFrame) : Nat → Int → Option Bool
  | 0, _ => none
  | n + 1, y10 =>
    (bif decide (y10 < (x1.length : Int)) then
    (idx x1 y10).bind fun x20 =>
    (idx x2 y10).bind fun x23 =>
    (sameFrameD fu x20 x23).bind fun r27 =>
    (bif !r27 then
    some false
    else
    (sameFrames_l1 fu x1 x2 n) (IntKind.wrap .i64 (y10 + 1)))
    else
    some true)

def sameFramesD (fu : Nat) (x1 : List GFrame) (x2 : List GFrame) : Option Bool :=
    (bif (x1.length : Int) != (x2.length : Int) then
    some false
    else
    sameFrames_l1 fu x1 x2 fu 0)

set_option maxRecDepth 100000 in
set_option maxHeartbeats 4000000 in
theorem sameFrames_ok {M : Mm} {w : World} {vx1 : Value} {vx2 : Value} {x1 : List GFrame} {x2 : List GFrame} {fu : Nat} {r : Bool} (hA : Agree M w) (hvx1 : repL M vx1 x1) (hvx2 : repL M vx2 x2) (hz : sameFramesD fu x1 x2 = some r) :
    Calls Try.prog 20 #[vx1, vx2] w (GivesV w (.bool r)) := by
  refine calls_W Try.func20 rfl 27 rfl rfl (by kernel_rfl) fun T hT => ?_
  have hT_0 : T 0 = vx1 := hT 0
  have hT_1 : T 1 = vx2 := hT 1
  clear hT
  have hE := Mm.ext.refl w.heap.size noX M
  have hS : St w noX M [] w := St.start hA
  rw [sameFramesD] at hz
  refine W_seq ?_
  refine W_reg ?_
  refine WL_y (Y_assign (.bool false) rfl) ?_
  refine WL_nil (nm_then ?_)
  refine W_seq ?_
  refine W_seq ?_
  refine W_reg ?_
  refine WL_y (Y_move (vx1) hT_0) ?_
  obtain ⟨a3, c3, hv3, _⟩ := repL_shape hvx1
  refine WL_y (Y_lenL Try.underlying25 (tr2 hv3 rfl)) ?_
  refine WL_y (Y_move (vx2) hT_1) ?_
  obtain ⟨a4, c4, hv4, _⟩ := repL_shape hvx2
  refine WL_y (Y_lenL Try.underlying25 (tr2 hv4 rfl)) ?_
  refine WL_y (Y_neq rfl rfl) ?_
  refine WL_nil (nm_then ?_)
  refine W_cond rfl (fun hc5 => ?_) (fun hc5 => ?_)
  · replace hz := bif_ok_t hz hc5
    refine W_seq ?_
    refine W_reg ?_
    refine WL_y (Y_assign (.bool false) rfl) ?_
    refine WL_nil (nm_then ?_)
    cases hz
    exact W_ret (rt_then (R_t1 rfl rfl ⟨rfl, hS.kept⟩))
  · replace hz := bif_ok_f hz hc5
    refine W_skip (nm_then ?_)
    refine W_seq ?_
    refine W_seq ?_
    refine W_reg ?_
    refine WL_y (Y_move (vx1) hT_0) ?_
    obtain ⟨a6, c6, hv6, _⟩ := repL_shape hvx1
    refine WL_y (Y_lenL Try.underlying25 (tr2 hv6 rfl)) ?_
    refine WL_y (Y_move (.int .i64 0) rfl) ?_
    refine WL_nil (nm_then ?_)
    refine W_block ?_
    refine W_loop (fun k12 T' w' => ∃ M8 y10, Mm.ext w.heap.size noX M M8 ∧ St w noX M8 [] w' ∧ T' 0 = vx1 ∧ T' 1 = vx2 ∧ T' 12 = .int .i64 (x1.length : Int) ∧ T' 13 = .int .i64 y10 ∧ sameFrames_l1 fu x1 x2 k12 y10 = some r) fu ?_ ?_ ?_
    · exact ⟨M, (0 : Int), (Mm.ext.refl _ _ _), hS, hT_0, hT_1, rfl, rfl, hz⟩
    · rintro T' w' ⟨_, _, _, _, _, _, _, _, hz⟩
      rw [sameFrames_l1] at hz
      cases hz
    · intro k12
      rintro T9 w7 ⟨M8, y10, hx14, hS, hT9_0, hT9_1, hT9_12, hT9_13, hz⟩
      replace hvx1 := repL.mono hx14.1 hvx1
      replace hvx2 := repL.mono hx14.1 hvx2
      replace hE := Mm.ext.trans hE hx14
      have hF13 := hx14
      rw [sameFrames_l1] at hz
      obtain ⟨rec11, hrec11⟩ : ∃ f, f = sameFrames_l1 fu x1 x2 k12 := ⟨_, rfl⟩
      rw [← hrec11] at hz
      refine W_seq ?_
      refine W_reg ?_
      refine WL_y (Y_lss hT9_13 hT9_12) ?_
      refine WL_nil (nm_then ?_)
      refine W_seq ?_
      refine W_cond rfl (fun hc15 => ?_) (fun hc15 => ?_)
      · replace hz := bif_ok_t hz hc15
        refine W_skip (nm_then ?_)
        refine W_seq ?_
        refine W_block ?_
        refine W_seq ?_
        refine W_reg ?_
        refine WL_y (Y_move (.int .i64 y10) hT9_13) ?_
        refine WL_y (Y_assign (.int .i64 y10) rfl) ?_
        refine WL_nil (nm_then ?_)
        refine W_seq ?_
        refine W_drawB (Rd M8 []) (inL []) mixed hS fun w16 hS => ?_
        have hG17 := Mm.ext.refl w.heap.size noX M8
        have hR18 : Rd M8 [] w16 := Rd.of hS hG17 (by simp)
        refine WB_y (i := 0) rfl (by kernel_rfl) rfl (Y_move (vx1) hT9_0) (fun _ => hR18) ?_
        refine WB_y (i := 1) rfl (by kernel_rfl) rfl (Y_move (.int .i64 y10) rfl) (fun _ => hR18) ?_
        obtain ⟨x20, hx19, hz⟩ := bind_ok hz
        obtain ⟨b19, o19, c19, p19, hv19, hi19, hj19, hM19, hr19⟩ := repL_at hvx1 hx19
        replace hr19 : rep _ (sl p19 (o19 + Int.toNat y10 * 7) 7) x20 := hr19
        refine WB_y (i := 2) rfl (by kernel_rfl) rfl (Y_ixL il25 rfl hv19 rfl hi19 hj19) (fun _ => hR18) ?_
        have ha21 := hr19
        refine WB_ld (i := 3) rfl (by kernel_rfl) rfl (inL_lt rfl) (by kernel_rfl) (by kernel_rfl) (Y_ldn ta38 rfl (bvRM hM19) (Rep.len ha21)) hR18 ?_
        refine WB_y (i := 4) rfl (by kernel_rfl) rfl (Y_move (vx2) hT9_1) (fun _ => hR18) ?_
        refine WB_y (i := 5) rfl (by kernel_rfl) rfl (Y_move (.int .i64 y10) rfl) (fun _ => hR18) ?_
        obtain ⟨x23, hx22, hz⟩ := bind_ok hz
        obtain ⟨b22, o22, c22, p22, hv22, hi22, hj22, hM22, hr22⟩ := repL_at hvx2 hx22
        replace hr22 : rep _ (sl p22 (o22 + Int.toNat y10 * 7) 7) x23 := hr22
        refine WB_y (i := 6) rfl (by kernel_rfl) rfl (Y_ixL il25 rfl hv22 rfl hi22 hj22) (fun _ => hR18) ?_
        have ha24 := hr22
        refine WB_ld (i := 7) rfl (by kernel_rfl) rfl (inL_lt rfl) (by kernel_rfl) (by kernel_rfl) (Y_ldn ta38 rfl (bvRM hM22) (Rep.len ha24)) hR18 ?_
        obtain ⟨r27, hr26, hz⟩ := bind_ok hz
        refine WB_one (i := 8) (by kernel_rfl) rfl (O_val (vs := [.agg (sl p19 (o19 + Int.toNat y10 * 7) 7).toArray, .agg (sl p22 (o22 + Int.toNat y10 * 7) 7).toArray]) (v := .bool r27) cb23 (args2 rfl rfl) hS (sameFrame_ok hS.agree ha21 ha24 hr26) ?_)
        intro w25 hS
        have hR28 : Rd M8 [] w25 := Rd.of hS hG17 (by simp)
        refine ⟨fun _ => hR28, ?_⟩
        refine WB_y (i := 9) rfl (by kernel_rfl) rfl (Y_not rfl) (fun _ => hR28) ?_
        refine WB_done (by kernel_rfl) (nm_then ?_)
        refine W_cond rfl (fun hc29 => ?_) (fun hc29 => ?_)
        · replace hz := bif_ok_t hz hc29
          refine W_seq ?_
          refine W_reg ?_
          refine WL_y (Y_assign (.bool false) rfl) ?_
          refine WL_nil (nm_then ?_)
          cases hz
          exact W_ret (rt_blk (rt_then (rt_then (rt_blk (rt_then (R_t1 rfl rfl ⟨rfl, hS.kept⟩))))))
        · replace hz := bif_ok_f hz hc29
          refine W_skip (nm_blk ?_)
          refine (nm_then ?_)
          refine W_reg ?_
          refine WL_y (Y_add hT9_13 rfl) ?_
          refine WL_y (Y_move (.int .i64 (IntKind.wrap .i64 (y10 + 1))) rfl) ?_
          refine WL_nil (nm_then ?_)
          exact ⟨M8, (IntKind.wrap .i64 (y10 + 1)), hF13, hS, hT9_0, hT9_1, hT9_12, rfl, (by rw [← hrec11]; exact hz)⟩
      · replace hz := bif_ok_f hz hc15
        refine W_exit ?_
        refine ex_then ?_
        refine ex_then ?_
        refine ex_hit ?_
        refine (nm_then ?_)
        refine W_seq ?_
        refine W_reg ?_
        refine WL_y (Y_assign (.bool true) rfl) ?_
        refine WL_nil (nm_then ?_)
        cases hz
        exact W_ret (R_t1 rfl rfl ⟨rfl, hS.kept⟩)

end Go.Proofs.Ytopgdemmdcipcaa
