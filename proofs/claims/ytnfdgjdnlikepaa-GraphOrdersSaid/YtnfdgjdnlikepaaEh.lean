/- What functions compute, and that they do. (Written by dc.py.) -/
import Derived.Test.YtnfdgjdnlikepaaEe
namespace Go.Proofs.Ytnfdgjdnlikepaa
open Go.RowKit
open Rep (rep)
set_option linter.unusedVariables false

def lawOrders_j1 (c46 : Bool) : Option Bool :=
    some c46

def lawOrdersD (fu : Nat) : Option Bool :=
    (idxV ((Zr.zd : GGraph).known) 1).bind fun x5 =>
    (setV ((Zr.zd : GGraph).known) 1 true).bind fun a8 =>
    (some ({ (Zr.zd : GGraph) with known := a8 } : GGraph)).bind fun d10 =>
    (idxV d10.known 2).bind fun x13 =>
    (setV d10.known 2 true).bind fun a16 =>
    (some ({ d10 with known := a16 } : GGraph)).bind fun d18 =>
    (idxV d18.deps 1).bind fun x25 =>
    (setV d18.deps 1 ([2] : List Int)).bind fun a28 =>
    (some ({ d18 with deps := a28 } : GGraph)).bind fun d30 =>
    (idxV d30.deps 2).bind fun x33 =>
    (setV d30.deps 2 ([1] : List Int)).bind fun a36 =>
    (some ({ d30 with deps := a36 } : GGraph)).bind fun d38 =>
    (gorderD fu d38 2).bind fun r42 =>
    (bif (r42.length : Int) == 2 then
    (idx r42 0).bind fun x52 =>
    (bif x52 == 1 then
    (readyD fu d38 1).bind fun r57 =>
    (bif r57 then
    (reachD fu d38 1).bind fun r62 =>
    (idxV r62 2).bind fun x63 =>
    lawOrders_j1 x63
    else
    lawOrders_j1 false)
    else
    lawOrders_j1 false)
    else
    lawOrders_j1 false)

set_option maxRecDepth 100000 in
set_option maxHeartbeats 4000000 in
theorem lawOrders_ok {M : Mm} {w : World} {fu : Nat} {r : Bool} (hA : Agree M w)  (hz : lawOrdersD fu = some r) :
    Calls Try.prog 72 #[] w (GivesV w (.bool r)) := by
  refine calls_W Try.func72 rfl 33 rfl rfl (by kernel_rfl) fun T hT => ?_
  clear hT
  have hE := Mm.ext.refl w.heap.size noX M
  have hS : St w noX M [] w := St.start hA
  rw [lawOrdersD] at hz
  refine W_seq ?_
  refine W_reg ?_
  refine WL_y (Y_assign (.bool false) rfl) ?_
  refine WL_nil (nm_then ?_)
  refine W_seq ?_
  refine W_reg ?_
  refine WL_c (O_alloc tz95 hS ?_)
  intro b2 w1 hb2 hS
  replace hS : St w noX M [.box b2 (Zr.zc GGraph) 95] w1 := hS
  have zb2 : rep M (Zr.zc GGraph) (Zr.zd : GGraph) := Zr.zr
  refine WL_nil (nm_then ?_)
  refine W_seq ?_
  refine W_reg ?_
  refine WL_y (Y_fa fa95_0 rfl) ?_
  refine WL_y (Y_ixA ia92 rfl rfl (by decide) (by decide)) ?_
  obtain ⟨x5, hx6, hz⟩ := bind_ok hz
  have hw4 : ([.bool true] : List Value).length = 1 := Rep.len (show rep M [Value.bool true] (true : Bool) from rfl)
  have hl4 : ((Zr.zc GGraph)).length = 64 := Rep.len zb2
  have hq7 := (idxV_some hx6)
  obtain ⟨a8, hx9, hz⟩ := bind_ok hz
  obtain ⟨d10, hd4, hz⟩ := bind_ok hz
  have hb4 : rep M (pt (Zr.zc GGraph) (0 + 0 + Int.toNat 1 * 1) [.bool true]) d10 := rep_eq (rep_whole (k := 64) (by rw [pt_length (by omega)]; exact hl4) (GGraph.s0 (rep_root (k := 64) rfl zb2) (vs (k := 1) rfl rfl (GGraph.p0 (rep_root (k := 64) rfl zb2)) (rep_leaf rfl (show rep M [Value.bool true] (true : Bool) from rfl) (by omega)) hx9 (by omega) (by omega) (by omega)) (by omega) (by omega) (by omega))) hd4
  generalize hg4 : (pt (Zr.zc GGraph) (0 + 0 + Int.toNat 1 * 1) [.bool true]) = cs4 at hb4
  refine WL_c (O_st (j := 0) (v := .bool true) (ws := [.bool true]) hS rfl (by kernel_rfl) rfl rfl rfl hw4 (Rep.one (show rep M [Value.bool true] (true : Bool) from rfl)) (by omega) ?_)
  rw [hg4]
  clear hg4
  intro w3 hS
  replace hS : St w noX M [.box b2 cs4 95] w3 := hS
  refine WL_y (Y_fa fa95_0 rfl) ?_
  refine WL_y (Y_ixA ia92 rfl rfl (by decide) (by decide)) ?_
  obtain ⟨x13, hx14, hz⟩ := bind_ok hz
  have hw12 : ([.bool true] : List Value).length = 1 := Rep.len (show rep M [Value.bool true] (true : Bool) from rfl)
  have hl12 : (cs4).length = 64 := Rep.len hb4
  have hq15 := (idxV_some hx14)
  obtain ⟨a16, hx17, hz⟩ := bind_ok hz
  obtain ⟨d18, hd12, hz⟩ := bind_ok hz
  have hb12 : rep M (pt cs4 (0 + 0 + Int.toNat 2 * 1) [.bool true]) d18 := rep_eq (rep_whole (k := 64) (by rw [pt_length (by omega)]; exact hl12) (GGraph.s0 (rep_root (k := 64) rfl hb4) (vs (k := 1) rfl rfl (GGraph.p0 (rep_root (k := 64) rfl hb4)) (rep_leaf rfl (show rep M [Value.bool true] (true : Bool) from rfl) (by omega)) hx17 (by omega) (by omega) (by omega)) (by omega) (by omega) (by omega))) hd12
  generalize hg12 : (pt cs4 (0 + 0 + Int.toNat 2 * 1) [.bool true]) = cs12 at hb12
  refine WL_c (O_st (j := 0) (v := .bool true) (ws := [.bool true]) hS rfl (by kernel_rfl) rfl rfl rfl hw12 (Rep.one (show rep M [Value.bool true] (true : Bool) from rfl)) (by omega) ?_)
  rw [hg12]
  clear hg12
  intro w11 hS
  replace hS : St w noX M [.box b2 cs12 95] w11 := hS
  refine WL_nil (nm_then ?_)
  refine W_seq ?_
  refine W_reg ?_
  refine WL_c (O_bslice (α := Int) (l := ([2] : List Int)) [.int .i64 2] tl34 (bpc rfl bp0) rfl rfl (by decide) (by decide) (by decide) hS (brc (show rep M [Value.int .i64 2] (2 : Int) from rfl) br0) ?_)
  intro v20 M20 w19 hx20 hv20 hS
  replace hb12 := Rep.mono hx20.1 hb12
  replace hE := Mm.ext.trans hE hx20
  refine WL_c (O_bslice (α := Int) (l := ([1] : List Int)) [.int .i64 1] tl34 (bpc rfl bp0) rfl rfl (by decide) (by decide) (by decide) hS (brc (show rep M20 [Value.int .i64 1] (1 : Int) from rfl) br0) ?_)
  intro v22 M22 w21 hx22 hv22 hS
  replace hb12 := Rep.mono hx22.1 hb12
  replace hv20 := repL.mono hx22.1 hv20
  replace hE := Mm.ext.trans hE hx22
  refine WL_y (Y_fa fa95_1 rfl) ?_
  refine WL_y (Y_ixA ia93 rfl rfl (by decide) (by decide)) ?_
  obtain ⟨x25, hx26, hz⟩ := bind_ok hz
  have hw24 : ([v20] : List Value).length = 1 := Rep.len (repL_rep hv20)
  have hl24 : (cs12).length = 64 := Rep.len hb12
  have hq27 := (idxV_some hx26)
  obtain ⟨a28, hx29, hz⟩ := bind_ok hz
  obtain ⟨d30, hd24, hz⟩ := bind_ok hz
  have hb24 : rep M22 (pt cs12 (0 + 32 + Int.toNat 1 * 1) [v20]) d30 := rep_eq (rep_whole (k := 64) (by rw [pt_length (by omega)]; exact hl24) (GGraph.s1 (rep_root (k := 64) rfl hb12) (vs (k := 1) rfl rfl (GGraph.p1 (rep_root (k := 64) rfl hb12)) (rep_leaf rfl (repL_rep hv20) (by omega)) hx29 (by omega) (by omega) (by omega)) (by omega) (by omega) (by omega))) hd24
  generalize hg24 : (pt cs12 (0 + 32 + Int.toNat 1 * 1) [v20]) = cs24 at hb24
  refine WL_c (O_st (j := 0) (v := v20) (ws := [v20]) hS rfl (by kernel_rfl) rfl rfl (repL_cells hv20) hw24 (Rep.one (repL_rep hv20)) (by omega) ?_)
  rw [hg24]
  clear hg24
  intro w23 hS
  replace hS : St w noX M22 [.box b2 cs24 95] w23 := hS
  refine WL_y (Y_fa fa95_1 rfl) ?_
  refine WL_y (Y_ixA ia93 rfl rfl (by decide) (by decide)) ?_
  obtain ⟨x33, hx34, hz⟩ := bind_ok hz
  have hw32 : ([v22] : List Value).length = 1 := Rep.len (repL_rep hv22)
  have hl32 : (cs24).length = 64 := Rep.len hb24
  have hq35 := (idxV_some hx34)
  obtain ⟨a36, hx37, hz⟩ := bind_ok hz
  obtain ⟨d38, hd32, hz⟩ := bind_ok hz
  have hb32 : rep M22 (pt cs24 (0 + 32 + Int.toNat 2 * 1) [v22]) d38 := rep_eq (rep_whole (k := 64) (by rw [pt_length (by omega)]; exact hl32) (GGraph.s1 (rep_root (k := 64) rfl hb24) (vs (k := 1) rfl rfl (GGraph.p1 (rep_root (k := 64) rfl hb24)) (rep_leaf rfl (repL_rep hv22) (by omega)) hx37 (by omega) (by omega) (by omega)) (by omega) (by omega) (by omega))) hd32
  generalize hg32 : (pt cs24 (0 + 32 + Int.toNat 2 * 1) [v22]) = cs32 at hb32
  refine WL_c (O_st (j := 0) (v := v22) (ws := [v22]) hS rfl (by kernel_rfl) rfl rfl (repL_cells hv22) hw32 (Rep.one (repL_rep hv22)) (by omega) ?_)
  rw [hg32]
  clear hg32
  intro w31 hS
  replace hS : St w noX M22 [.box b2 cs32 95] w31 := hS
  refine WL_nil (nm_then ?_)
  refine W_seq ?_
  refine W_reg ?_
  have ha39 := (rep_root (k := 64) rfl hb32)
  refine WL_y (Y_ldn ta95 rfl (hS.bvB 0 rfl) (Rep.len ha39)) ?_
  obtain ⟨r42, hr41, hz⟩ := bind_ok hz
  refine WL_c (O_mem (vs := [.agg (sl cs32 (0) 64).toArray, .int .i64 2]) (rv := (fun M' u => repL M' u r42)) cb70 (args2 rfl rfl) hS (gorder_ok hS.agree ha39 hr41) ?_)
  intro u41 M41 w40 hx41 hu41 hS
  have f41 : repL M41 u41 r42 := hu41
  replace hb32 := Rep.mono hx41.1 hb32
  replace ha39 := Rep.mono hx41.1 ha39
  replace hE := Mm.ext.trans hE hx41
  refine WL_y (Y_assign (u41) rfl) ?_
  refine WL_nil (nm_then ?_)
  refine W_seqJ (fun T' w' => ∃ M44 c46, Mm.ext w.heap.size noX M41 M44 ∧ St w noX M44 [.box b2 cs32 95] w' ∧ T' 0 = .bool c46 ∧ lawOrders_j1 c46 = some r) ?_ ?_
  · have hF48 := Mm.ext.refl w.heap.size noX M41
    refine W_reg ?_
    refine WL_y (Y_move (u41) rfl) ?_
    obtain ⟨a49, c49, hv49, _⟩ := repL_shape f41
    refine WL_y (Y_lenL Try.underlying34 (tr2 hv49 rfl)) ?_
    refine WL_y (Y_eql rfl rfl) ?_
    refine WL_y (Y_move (.bool ((r42.length : Int) == 2)) rfl) ?_
    rcases Bool.eq_false_or_eq_true ((r42.length : Int) == 2) with hc50 | hc50
    · replace hz := bif_ok_t hz hc50
      refine WL_gy rfl (bt hc50 rfl) (Y_move (u41) rfl) ?_
      obtain ⟨x52, hx51, hz⟩ := bind_ok hz
      obtain ⟨b51, o51, c51, p51, hv51, hi51, hj51, hM51, hr51⟩ := repL_at f41 hx51
      replace hr51 : rep _ (sl p51 (o51 + Int.toNat 0 * 1) 1) x52 := hr51
      refine WL_gy rfl (bt hc50 rfl) (Y_ixL il34 rfl hv51 rfl hi51 hj51) ?_
      refine WL_gy rfl (bt hc50 rfl) (Y_ld1 (.int .i64 x52) ts3 rfl (hS.bvM hM51) hr51) ?_
      refine WL_gy rfl (bt hc50 rfl) (Y_eql rfl rfl) ?_
      refine WL_y (Y_pick_t (.bool (x52 == 1)) (bt hc50 rfl) rfl) ?_
      refine WL_y (Y_move (.bool (x52 == 1)) rfl) ?_
      rcases Bool.eq_false_or_eq_true (x52 == 1) with hc53 | hc53
      · replace hz := bif_ok_t hz hc53
        have ha54 := (rep_root (k := 64) rfl hb32)
        refine WL_gy rfl (bt hc53 rfl) (Y_ldn ta95 rfl (hS.bvB 0 rfl) (Rep.len ha54)) ?_
        obtain ⟨r57, hr56, hz⟩ := bind_ok hz
        refine WL_g rfl (bt hc53 rfl) (O_val (vs := [.agg (sl cs32 (0) 64).toArray, .int .i64 1]) (v := .bool r57) cb68 (args2 rfl rfl) hS (ready_ok hS.agree ha54 hr56) ?_)
        intro w55 hS
        refine WL_y (Y_pick_t (.bool r57) (bt hc53 rfl) rfl) ?_
        refine WL_y (Y_move (.bool r57) rfl) ?_
        rcases Bool.eq_false_or_eq_true r57 with hc58 | hc58
        · replace hz := bif_ok_t hz hc58
          have ha59 := (rep_root (k := 64) rfl hb32)
          refine WL_gy rfl (bt hc58 rfl) (Y_ldn ta95 rfl (hS.bvB 0 rfl) (Rep.len ha59)) ?_
          obtain ⟨r62, hr61, hz⟩ := bind_ok hz
          refine WL_g rfl (bt hc58 rfl) (O_mem (vs := [.agg (sl cs32 (0) 64).toArray, .int .i64 1]) (rv := (fun M' u => ∃ cs, u = .agg cs.toArray ∧ rep M' cs r62)) cb66 (args2 rfl rfl) hS (reach_ok hS.agree ha59 hr61) ?_)
          intro u61 M61 w60 hx61 hu61 hS
          obtain ⟨c61, hq61, f61⟩ := hu61
          subst hq61
          replace hb32 := Rep.mono hx61.1 hb32
          replace f41 := repL.mono hx61.1 f41
          replace ha54 := Rep.mono hx61.1 ha54
          replace ha59 := Rep.mono hx61.1 ha59
          replace hE := Mm.ext.trans hE hx61
          replace hF48 := Mm.ext.trans hF48 hx61
          obtain ⟨x63, hx64, hz⟩ := bind_ok hz
          obtain ⟨hx64a, hx64b, hx64⟩ := repV_at f61 hx64
          refine WL_gy rfl (bt hc58 rfl) (Y_ixV1 (.bool x63) iv92 rfl rfl hx64a hx64b hx64) ?_
          refine WL_y (Y_pick_t (.bool x63) (bt hc58 rfl) rfl) ?_
          refine WL_y (Y_assign (.bool x63) rfl) ?_
          refine WL_nil (nm_then ?_)
          exact ⟨M61, x63, hF48, hS, rfl, hz⟩
        · replace hz := bif_ok_f hz hc58
          refine WL_s (j := 13) rfl (bf hc58 rfl) rfl ?_
          refine WL_s (j := 13) rfl (bf hc58 rfl) rfl ?_
          refine WL_s (j := 13) rfl (bf hc58 rfl) rfl ?_
          refine WL_y (Y_pick_f (.bool false) (bf hc58 rfl) rfl) ?_
          refine WL_y (Y_assign (.bool false) rfl) ?_
          refine WL_nil (nm_then ?_)
          exact ⟨M41, false, hF48, hS, rfl, hz⟩
      · replace hz := bif_ok_f hz hc53
        refine WL_s (j := 9) rfl (bf hc53 rfl) rfl ?_
        refine WL_s (j := 9) rfl (bf hc53 rfl) rfl ?_
        refine WL_y (Y_pick_f (.bool false) (bf hc53 rfl) rfl) ?_
        refine WL_y (Y_move (.bool false) rfl) ?_
        refine WL_s (j := 13) rfl rfl rfl ?_
        refine WL_s (j := 13) rfl rfl rfl ?_
        refine WL_s (j := 13) rfl rfl rfl ?_
        refine WL_y (Y_pick_f (.bool false) rfl rfl) ?_
        refine WL_y (Y_assign (.bool false) rfl) ?_
        refine WL_nil (nm_then ?_)
        exact ⟨M41, false, hF48, hS, rfl, hz⟩
    · replace hz := bif_ok_f hz hc50
      refine WL_s (j := 3) rfl (bf hc50 rfl) rfl ?_
      refine WL_s (j := 3) rfl (bf hc50 rfl) rfl ?_
      refine WL_s (j := 3) rfl (bf hc50 rfl) rfl ?_
      refine WL_s (j := 3) rfl (bf hc50 rfl) rfl ?_
      refine WL_y (Y_pick_f (.bool false) (bf hc50 rfl) rfl) ?_
      refine WL_y (Y_move (.bool false) rfl) ?_
      refine WL_s (j := 9) rfl rfl rfl ?_
      refine WL_s (j := 9) rfl rfl rfl ?_
      refine WL_y (Y_pick_f (.bool false) rfl rfl) ?_
      refine WL_y (Y_move (.bool false) rfl) ?_
      refine WL_s (j := 13) rfl rfl rfl ?_
      refine WL_s (j := 13) rfl rfl rfl ?_
      refine WL_s (j := 13) rfl rfl rfl ?_
      refine WL_y (Y_pick_f (.bool false) rfl rfl) ?_
      refine WL_y (Y_assign (.bool false) rfl) ?_
      refine WL_nil (nm_then ?_)
      exact ⟨M41, false, hF48, hS, rfl, hz⟩
  · rintro T45 w43 ⟨M44, c46, hx47, hS, hT45_0, hz⟩
    replace hb32 := Rep.mono hx47.1 hb32
    replace hE := Mm.ext.trans hE hx47
    rw [lawOrders_j1] at hz
    cases hz
    exact W_ret (R_t1 rfl hT45_0 ⟨rfl, (St.dropB hS hb2).kept⟩)

def graphOrders_j1 (c8 : Bool) : Option Bool :=
    some c8

def graphOrdersD (fu : Nat) (x1 : GGraph) (x2 : Int) : Option Bool :=
    (reachD fu x1 x2).bind fun r18 =>
    (reachOfD fu x1 x2).bind fun r22 =>
    (bif decide (r18 = r22) then
    (readyD fu x1 x2).bind fun r29 =>
    (readyInD fu x1 x2).bind fun r33 =>
    (bif r29 == r33 then
    (gorderD fu x1 x2).bind fun r40 =>
    (orderOfD fu x1 x2).bind fun r44 =>
    (some (sameZ r40 r44)).bind fun r48 =>
    (bif r48 then
    (lawOrdersD fu).bind fun r53 =>
    graphOrders_j1 r53
    else
    graphOrders_j1 false)
    else
    graphOrders_j1 false)
    else
    graphOrders_j1 false)

set_option maxRecDepth 100000 in
set_option maxHeartbeats 4000000 in
theorem graphOrders_ok {M : Mm} {w : World} {cx1 : List Value} {x1 : GGraph} {x2 : Int} {fu : Nat} {r : Bool} (hA : Agree M w) (hcx1 : rep M cx1 x1) (hz : graphOrdersD fu x1 x2 = some r) :
    Calls Try.prog 14 #[.agg cx1.toArray, .int .i64 x2] w (GivesV w (.bool r)) := by
  refine calls_W Try.func14 rfl 33 rfl rfl (by kernel_rfl) fun T hT => ?_
  have hT_0 : T 0 = .agg cx1.toArray := hT 0
  have hT_1 : T 1 = .int .i64 x2 := hT 1
  clear hT
  have hE := Mm.ext.refl w.heap.size noX M
  have hS : St w noX M [] w := St.start hA
  rw [graphOrdersD] at hz
  refine W_seq ?_
  refine W_reg ?_
  refine WL_c (O_box (v := .agg cx1.toArray) (cs := cx1) hT_0 rfl hS ?_)
  intro b4 w3 hb4 hS
  replace hS : St w noX M [.box b4 cx1 95] w3 := hS
  refine WL_y (Y_assign (.bool false) rfl) ?_
  refine WL_nil (nm_then ?_)
  refine W_seqJ (fun T' w' => ∃ M6 c8, Mm.ext w.heap.size noX M M6 ∧ St w noX M6 [.box b4 cx1 95] w' ∧ T' 4 = .bool c8 ∧ graphOrders_j1 c8 = some r) ?_ ?_
  · have hF10 := Mm.ext.refl w.heap.size noX M
    refine W_drawB (Rd M [.box b4 cx1 95]) (inL []) mixed hS fun w11 hS => ?_
    have hG12 := Mm.ext.refl w.heap.size noX M
    have hR13 : Rd M [.box b4 cx1 95] w11 := Rd.of hS hG12 (by simp)
    have ha14 := (rep_root (k := 64) rfl hcx1)
    refine WB_ld (i := 0) rfl (by kernel_rfl) rfl (inL_lt rfl) (by kernel_rfl) (by kernel_rfl) (Y_ldn ta95 rfl (bvR 0 rfl) (Rep.len ha14)) hR13 ?_
    refine WB_y (i := 1) rfl (by kernel_rfl) rfl (Y_move (.int .i64 x2) hT_1) (fun _ => hR13) ?_
    have ha15 := (rep_root (k := 64) rfl hcx1)
    refine WB_ld (i := 3) rfl (by kernel_rfl) rfl (inL_lt rfl) (by kernel_rfl) (by kernel_rfl) (Y_ldn ta95 rfl (bvR 0 rfl) (Rep.len ha15)) hR13 ?_
    refine WB_y (i := 4) rfl (by kernel_rfl) rfl (Y_move (.int .i64 x2) hT_1) (fun _ => hR13) ?_
    obtain ⟨r18, hr17, hz⟩ := bind_ok hz
    refine WB_one (i := 2) (by kernel_rfl) rfl (O_mem (vs := [.agg (sl cx1 (0) 64).toArray, .int .i64 x2]) (rv := (fun M' u => ∃ cs, u = .agg cs.toArray ∧ rep M' cs r18)) cb66 (args2 rfl rfl) hS (reach_ok hS.agree ha14 hr17) ?_)
    intro u17 M17 w16 hx17 hu17 hS
    obtain ⟨c17, hq17, f17⟩ := hu17
    subst hq17
    replace hcx1 := Rep.mono hx17.1 hcx1
    replace ha14 := Rep.mono hx17.1 ha14
    replace ha15 := Rep.mono hx17.1 ha15
    replace hE := Mm.ext.trans hE hx17
    replace hF10 := Mm.ext.trans hF10 hx17
    replace hG12 := Mm.ext.trans hG12 hx17
    have hR19 : Rd M [.box b4 cx1 95] w16 := Rd.of hS hG12 (by simp)
    refine ⟨fun _ => hR19, ?_⟩
    obtain ⟨r22, hr21, hz⟩ := bind_ok hz
    refine WB_one (i := 5) (by kernel_rfl) rfl (O_mem (vs := [.agg (sl cx1 (0) 64).toArray, .int .i64 x2]) (rv := (fun M' u => ∃ cs, u = .agg cs.toArray ∧ rep M' cs r22)) cb67 (args2 rfl rfl) hS (reachOf_ok hS.agree ha15 hr21) ?_)
    intro u21 M21 w20 hx21 hu21 hS
    obtain ⟨c21, hq21, f21⟩ := hu21
    subst hq21
    replace hcx1 := Rep.mono hx21.1 hcx1
    replace ha14 := Rep.mono hx21.1 ha14
    replace ha15 := Rep.mono hx21.1 ha15
    replace f17 := Rep.mono hx21.1 f17
    replace hE := Mm.ext.trans hE hx21
    replace hF10 := Mm.ext.trans hF10 hx21
    replace hG12 := Mm.ext.trans hG12 hx21
    have hR23 : Rd M [.box b4 cx1 95] w20 := Rd.of hS hG12 (by simp)
    refine ⟨fun _ => hR23, ?_⟩
    refine WB_y (i := 6) rfl (by kernel_rfl) rfl (Y_eqA rfl rfl eg92 f17 f21) (fun _ => hR23) ?_
    refine WB_y (i := 7) rfl (by kernel_rfl) rfl (Y_move (.bool (decide (r18 = r22))) rfl) (fun _ => hR23) ?_
    rcases Bool.eq_false_or_eq_true (decide (r18 = r22)) with hc24 | hc24
    · replace hz := bif_ok_t hz hc24
      have ha25 := (rep_root (k := 64) rfl hcx1)
      refine WB_gld (i := 8) rfl (by kernel_rfl) rfl (inL_lt rfl) (by kernel_rfl) (by kernel_rfl) rfl (bt hc24 rfl) (Y_ldn ta95 rfl (bvR 0 rfl) (Rep.len ha25)) hR23 ?_
      refine WB_gy (i := 9) rfl (by kernel_rfl) rfl rfl (bt hc24 rfl) (Y_move (.int .i64 x2) hT_1) (fun _ => hR23) ?_
      have ha26 := (rep_root (k := 64) rfl hcx1)
      refine WB_gld (i := 11) rfl (by kernel_rfl) rfl (inL_lt rfl) (by kernel_rfl) (by kernel_rfl) rfl (bt hc24 rfl) (Y_ldn ta95 rfl (bvR 0 rfl) (Rep.len ha26)) hR23 ?_
      refine WB_gy (i := 12) rfl (by kernel_rfl) rfl rfl (bt hc24 rfl) (Y_move (.int .i64 x2) hT_1) (fun _ => hR23) ?_
      obtain ⟨r29, hr28, hz⟩ := bind_ok hz
      refine WB_one_g (i := 10) (by kernel_rfl) rfl rfl (bt hc24 rfl) (O_val (vs := [.agg (sl cx1 (0) 64).toArray, .int .i64 x2]) (v := .bool r29) cb68 (args2 rfl rfl) hS (ready_ok hS.agree ha25 hr28) ?_)
      intro w27 hS
      have hR30 : Rd M [.box b4 cx1 95] w27 := Rd.of hS hG12 (by simp)
      refine ⟨fun _ => hR30, ?_⟩
      obtain ⟨r33, hr32, hz⟩ := bind_ok hz
      refine WB_one_g (i := 13) (by kernel_rfl) rfl rfl (bt hc24 rfl) (O_val (vs := [.agg (sl cx1 (0) 64).toArray, .int .i64 x2]) (v := .bool r33) cb69 (args2 rfl rfl) hS (readyIn_ok hS.agree ha26 hr32) ?_)
      intro w31 hS
      have hR34 : Rd M [.box b4 cx1 95] w31 := Rd.of hS hG12 (by simp)
      refine ⟨fun _ => hR34, ?_⟩
      refine WB_gy (i := 14) rfl (by kernel_rfl) rfl rfl (bt hc24 rfl) (Y_eqB rfl rfl Try.underlying4) (fun _ => hR34) ?_
      refine WB_y (i := 15) rfl (by kernel_rfl) rfl (Y_pick_t (.bool (r29 == r33)) (bt hc24 rfl) rfl) (fun _ => hR34) ?_
      refine WB_y (i := 16) rfl (by kernel_rfl) rfl (Y_move (.bool (r29 == r33)) rfl) (fun _ => hR34) ?_
      rcases Bool.eq_false_or_eq_true (r29 == r33) with hc35 | hc35
      · replace hz := bif_ok_t hz hc35
        have ha36 := (rep_root (k := 64) rfl hcx1)
        refine WB_gld (i := 17) rfl (by kernel_rfl) rfl (inL_lt rfl) (by kernel_rfl) (by kernel_rfl) rfl (bt hc35 rfl) (Y_ldn ta95 rfl (bvR 0 rfl) (Rep.len ha36)) hR34 ?_
        refine WB_gy (i := 18) rfl (by kernel_rfl) rfl rfl (bt hc35 rfl) (Y_move (.int .i64 x2) hT_1) (fun _ => hR34) ?_
        have ha37 := (rep_root (k := 64) rfl hcx1)
        refine WB_gld (i := 20) rfl (by kernel_rfl) rfl (inL_lt rfl) (by kernel_rfl) (by kernel_rfl) rfl (bt hc35 rfl) (Y_ldn ta95 rfl (bvR 0 rfl) (Rep.len ha37)) hR34 ?_
        refine WB_gy (i := 21) rfl (by kernel_rfl) rfl rfl (bt hc35 rfl) (Y_move (.int .i64 x2) hT_1) (fun _ => hR34) ?_
        obtain ⟨r40, hr39, hz⟩ := bind_ok hz
        refine WB_one_g (i := 19) (by kernel_rfl) rfl rfl (bt hc35 rfl) (O_mem (vs := [.agg (sl cx1 (0) 64).toArray, .int .i64 x2]) (rv := (fun M' u => repL M' u r40)) cb70 (args2 rfl rfl) hS (gorder_ok hS.agree ha36 hr39) ?_)
        intro u39 M39 w38 hx39 hu39 hS
        have f39 : repL M39 u39 r40 := hu39
        replace hcx1 := Rep.mono hx39.1 hcx1
        replace ha14 := Rep.mono hx39.1 ha14
        replace ha15 := Rep.mono hx39.1 ha15
        replace f17 := Rep.mono hx39.1 f17
        replace f21 := Rep.mono hx39.1 f21
        replace ha25 := Rep.mono hx39.1 ha25
        replace ha26 := Rep.mono hx39.1 ha26
        replace ha36 := Rep.mono hx39.1 ha36
        replace ha37 := Rep.mono hx39.1 ha37
        replace hE := Mm.ext.trans hE hx39
        replace hF10 := Mm.ext.trans hF10 hx39
        replace hG12 := Mm.ext.trans hG12 hx39
        have hR41 : Rd M [.box b4 cx1 95] w38 := Rd.of hS hG12 (by simp)
        refine ⟨fun _ => hR41, ?_⟩
        obtain ⟨r44, hr43, hz⟩ := bind_ok hz
        refine WB_one_g (i := 22) (by kernel_rfl) rfl rfl (bt hc35 rfl) (O_mem (vs := [.agg (sl cx1 (0) 64).toArray, .int .i64 x2]) (rv := (fun M' u => repL M' u r44)) cb71 (args2 rfl rfl) hS (orderOf_ok hS.agree ha37 hr43) ?_)
        intro u43 M43 w42 hx43 hu43 hS
        have f43 : repL M43 u43 r44 := hu43
        replace hcx1 := Rep.mono hx43.1 hcx1
        replace ha14 := Rep.mono hx43.1 ha14
        replace ha15 := Rep.mono hx43.1 ha15
        replace f17 := Rep.mono hx43.1 f17
        replace f21 := Rep.mono hx43.1 f21
        replace ha25 := Rep.mono hx43.1 ha25
        replace ha26 := Rep.mono hx43.1 ha26
        replace ha36 := Rep.mono hx43.1 ha36
        replace ha37 := Rep.mono hx43.1 ha37
        replace f39 := repL.mono hx43.1 f39
        replace hE := Mm.ext.trans hE hx43
        replace hF10 := Mm.ext.trans hF10 hx43
        replace hG12 := Mm.ext.trans hG12 hx43
        have hR45 : Rd M [.box b4 cx1 95] w42 := Rd.of hS hG12 (by simp)
        refine ⟨fun _ => hR45, ?_⟩
        obtain ⟨r48, hr47, hz⟩ := bind_ok hz
        replace hr47 := Option.some.inj hr47
        refine WB_one_g (i := 23) (by kernel_rfl) rfl rfl (bt hc35 rfl) (O_val (vs := [u39, u43]) (v := .bool r48) cb26 (args2 rfl rfl) hS (hr47 ▸ (c_sameNumbers hS.agree f39 f43)) ?_)
        intro w46 hS
        have hR49 : Rd M [.box b4 cx1 95] w46 := Rd.of hS hG12 (by simp)
        refine ⟨fun _ => hR49, ?_⟩
        refine WB_y (i := 24) rfl (by kernel_rfl) rfl (Y_pick_t (.bool r48) (bt hc35 rfl) rfl) (fun _ => hR49) ?_
        refine WB_y (i := 25) rfl (by kernel_rfl) rfl (Y_move (.bool r48) rfl) (fun _ => hR49) ?_
        rcases Bool.eq_false_or_eq_true r48 with hc50 | hc50
        · replace hz := bif_ok_t hz hc50
          obtain ⟨r53, hr52, hz⟩ := bind_ok hz
          refine WB_one_g (i := 26) (by kernel_rfl) rfl rfl (bt hc50 rfl) (O_val (vs := []) (v := .bool r53) cb72 args0 hS (lawOrders_ok hS.agree hr52) ?_)
          intro w51 hS
          have hR54 : Rd M [.box b4 cx1 95] w51 := Rd.of hS hG12 (by simp)
          refine ⟨fun _ => hR54, ?_⟩
          refine WB_y (i := 27) rfl (by kernel_rfl) rfl (Y_pick_t (.bool r53) (bt hc50 rfl) rfl) (fun _ => hR54) ?_
          refine WB_y (i := 28) rfl (by kernel_rfl) rfl (Y_assign (.bool r53) rfl) (fun _ => hR54) ?_
          refine WB_done (by kernel_rfl) (nm_then ?_)
          exact ⟨M43, r53, hF10, hS, rfl, hz⟩
        · replace hz := bif_ok_f hz hc50
          refine WB_s (i := 26) (j := 25) rfl (by kernel_rfl) rfl rfl (bf hc50 rfl) rfl (fun _ => hR49) ?_
          refine WB_y (i := 27) rfl (by kernel_rfl) rfl (Y_pick_f (.bool false) (bf hc50 rfl) rfl) (fun _ => hR49) ?_
          refine WB_y (i := 28) rfl (by kernel_rfl) rfl (Y_assign (.bool false) rfl) (fun _ => hR49) ?_
          refine WB_done (by kernel_rfl) (nm_then ?_)
          exact ⟨M43, false, hF10, hS, rfl, hz⟩
      · replace hz := bif_ok_f hz hc35
        refine WB_s (i := 17) (j := 16) rfl (by kernel_rfl) rfl rfl (bf hc35 rfl) rfl (fun _ => hR34) ?_
        refine WB_s (i := 18) (j := 16) rfl (by kernel_rfl) rfl rfl (bf hc35 rfl) rfl (fun _ => hR34) ?_
        refine WB_s (i := 19) (j := 16) rfl (by kernel_rfl) rfl rfl (bf hc35 rfl) rfl (fun _ => hR34) ?_
        refine WB_s (i := 20) (j := 16) rfl (by kernel_rfl) rfl rfl (bf hc35 rfl) rfl (fun _ => hR34) ?_
        refine WB_s (i := 21) (j := 16) rfl (by kernel_rfl) rfl rfl (bf hc35 rfl) rfl (fun _ => hR34) ?_
        refine WB_s (i := 22) (j := 16) rfl (by kernel_rfl) rfl rfl (bf hc35 rfl) rfl (fun _ => hR34) ?_
        refine WB_s (i := 23) (j := 16) rfl (by kernel_rfl) rfl rfl (bf hc35 rfl) rfl (fun _ => hR34) ?_
        refine WB_y (i := 24) rfl (by kernel_rfl) rfl (Y_pick_f (.bool false) (bf hc35 rfl) rfl) (fun _ => hR34) ?_
        refine WB_y (i := 25) rfl (by kernel_rfl) rfl (Y_move (.bool false) rfl) (fun _ => hR34) ?_
        refine WB_s (i := 26) (j := 25) rfl (by kernel_rfl) rfl rfl rfl rfl (fun _ => hR34) ?_
        refine WB_y (i := 27) rfl (by kernel_rfl) rfl (Y_pick_f (.bool false) rfl rfl) (fun _ => hR34) ?_
        refine WB_y (i := 28) rfl (by kernel_rfl) rfl (Y_assign (.bool false) rfl) (fun _ => hR34) ?_
        refine WB_done (by kernel_rfl) (nm_then ?_)
        exact ⟨M21, false, hF10, hS, rfl, hz⟩
    · replace hz := bif_ok_f hz hc24
      refine WB_s (i := 8) (j := 7) rfl (by kernel_rfl) rfl rfl (bf hc24 rfl) rfl (fun _ => hR23) ?_
      refine WB_s (i := 9) (j := 7) rfl (by kernel_rfl) rfl rfl (bf hc24 rfl) rfl (fun _ => hR23) ?_
      refine WB_s (i := 10) (j := 7) rfl (by kernel_rfl) rfl rfl (bf hc24 rfl) rfl (fun _ => hR23) ?_
      refine WB_s (i := 11) (j := 7) rfl (by kernel_rfl) rfl rfl (bf hc24 rfl) rfl (fun _ => hR23) ?_
      refine WB_s (i := 12) (j := 7) rfl (by kernel_rfl) rfl rfl (bf hc24 rfl) rfl (fun _ => hR23) ?_
      refine WB_s (i := 13) (j := 7) rfl (by kernel_rfl) rfl rfl (bf hc24 rfl) rfl (fun _ => hR23) ?_
      refine WB_s (i := 14) (j := 7) rfl (by kernel_rfl) rfl rfl (bf hc24 rfl) rfl (fun _ => hR23) ?_
      refine WB_y (i := 15) rfl (by kernel_rfl) rfl (Y_pick_f (.bool false) (bf hc24 rfl) rfl) (fun _ => hR23) ?_
      refine WB_y (i := 16) rfl (by kernel_rfl) rfl (Y_move (.bool false) rfl) (fun _ => hR23) ?_
      refine WB_s (i := 17) (j := 16) rfl (by kernel_rfl) rfl rfl rfl rfl (fun _ => hR23) ?_
      refine WB_s (i := 18) (j := 16) rfl (by kernel_rfl) rfl rfl rfl rfl (fun _ => hR23) ?_
      refine WB_s (i := 19) (j := 16) rfl (by kernel_rfl) rfl rfl rfl rfl (fun _ => hR23) ?_
      refine WB_s (i := 20) (j := 16) rfl (by kernel_rfl) rfl rfl rfl rfl (fun _ => hR23) ?_
      refine WB_s (i := 21) (j := 16) rfl (by kernel_rfl) rfl rfl rfl rfl (fun _ => hR23) ?_
      refine WB_s (i := 22) (j := 16) rfl (by kernel_rfl) rfl rfl rfl rfl (fun _ => hR23) ?_
      refine WB_s (i := 23) (j := 16) rfl (by kernel_rfl) rfl rfl rfl rfl (fun _ => hR23) ?_
      refine WB_y (i := 24) rfl (by kernel_rfl) rfl (Y_pick_f (.bool false) rfl rfl) (fun _ => hR23) ?_
      refine WB_y (i := 25) rfl (by kernel_rfl) rfl (Y_move (.bool false) rfl) (fun _ => hR23) ?_
      refine WB_s (i := 26) (j := 25) rfl (by kernel_rfl) rfl rfl rfl rfl (fun _ => hR23) ?_
      refine WB_y (i := 27) rfl (by kernel_rfl) rfl (Y_pick_f (.bool false) rfl rfl) (fun _ => hR23) ?_
      refine WB_y (i := 28) rfl (by kernel_rfl) rfl (Y_assign (.bool false) rfl) (fun _ => hR23) ?_
      refine WB_done (by kernel_rfl) (nm_then ?_)
      exact ⟨M21, false, hF10, hS, rfl, hz⟩
  · rintro T7 w5 ⟨M6, c8, hx9, hS, hT7_4, hz⟩
    replace hcx1 := Rep.mono hx9.1 hcx1
    replace hE := Mm.ext.trans hE hx9
    rw [graphOrders_j1] at hz
    cases hz
    exact W_ret (R_t1 rfl hT7_4 ⟨rfl, (St.dropB hS hb4).kept⟩)

end Go.Proofs.Ytnfdgjdnlikepaa
