/- What functions compute, and that they do. (Written by dc.py.) -/
import Derived.Test.YtnfdgjdnlikepabEe
import Derived.Test.YtnfdgjdnlikepabEk
namespace Go.Proofs.Ytnfdgjdnlikepab
open Go.RowKit
open Rep (rep)
set_option linter.unusedVariables false

def keepHas_l1 (x1 : List Int) (x2 : Int) : Nat → Int → Option Bool
  | 0, _ => none
  | n + 1, y7 =>
    (bif decide (y7 < (x1.length : Int)) then
    (idx x1 y7).bind fun x14 =>
    (bif x14 == x2 then
    some true
    else
    (keepHas_l1 x1 x2 n) (IntKind.wrap .i64 (y7 + 1)))
    else
    some false)

def keepHasD (fu : Nat) (x1 : List Int) (x2 : Int) : Option Bool :=
    keepHas_l1 x1 x2 fu 0

set_option maxRecDepth 100000 in
set_option maxHeartbeats 4000000 in
theorem keepHas_ok {M : Mm} {w : World} {vx1 : Value} {x1 : List Int} {x2 : Int} {fu : Nat} {r : Bool} (hA : Agree M w) (hvx1 : repL M vx1 x1) (hz : keepHasD fu x1 x2 = some r) :
    Calls Try.prog 19 #[vx1, .int .i64 x2] w (GivesV w (.bool r)) := by
  refine calls_W Try.func19 rfl 17 rfl rfl (by kernel_rfl) fun T hT => ?_
  have hT_0 : T 0 = vx1 := hT 0
  have hT_1 : T 1 = .int .i64 x2 := hT 1
  clear hT
  have hE := Mm.ext.refl w.heap.size noX M
  have hS : St w noX M [] w := St.start hA
  rw [keepHasD] at hz
  refine W_seq ?_
  refine W_reg ?_
  refine WL_y (Y_assign (.bool false) rfl) ?_
  refine WL_nil (nm_then ?_)
  refine W_seq ?_
  refine W_seq ?_
  refine W_reg ?_
  refine WL_y (Y_move (vx1) hT_0) ?_
  obtain ⟨a3, c3, hv3, _⟩ := repL_shape hvx1
  refine WL_y (Y_lenL Try.underlying23 (tr2 hv3 rfl)) ?_
  refine WL_y (Y_move (.int .i64 0) rfl) ?_
  refine WL_nil (nm_then ?_)
  refine W_block ?_
  refine W_loop (fun k9 T' w' => ∃ M5 y7, Mm.ext w.heap.size noX M M5 ∧ St w noX M5 [] w' ∧ T' 1 = .int .i64 x2 ∧ T' 7 = vx1 ∧ T' 8 = .int .i64 (x1.length : Int) ∧ T' 9 = .int .i64 y7 ∧ keepHas_l1 x1 x2 k9 y7 = some r) fu ?_ ?_ ?_
  · exact ⟨M, (0 : Int), (Mm.ext.refl _ _ _), hS, hT_1, rfl, rfl, rfl, hz⟩
  · rintro T' w' ⟨_, _, _, _, _, _, _, _, hz⟩
    rw [keepHas_l1] at hz
    cases hz
  · intro k9
    rintro T6 w4 ⟨M5, y7, hx11, hS, hT6_1, hT6_7, hT6_8, hT6_9, hz⟩
    replace hvx1 := repL.mono hx11.1 hvx1
    replace hE := Mm.ext.trans hE hx11
    have hF10 := hx11
    rw [keepHas_l1] at hz
    obtain ⟨rec8, hrec8⟩ : ∃ f, f = keepHas_l1 x1 x2 k9 := ⟨_, rfl⟩
    rw [← hrec8] at hz
    refine W_seq ?_
    refine W_reg ?_
    refine WL_y (Y_lss hT6_9 hT6_8) ?_
    refine WL_nil (nm_then ?_)
    refine W_seq ?_
    refine W_cond rfl (fun hc12 => ?_) (fun hc12 => ?_)
    · replace hz := bif_ok_t hz hc12
      refine W_skip (nm_then ?_)
      refine W_seq ?_
      refine W_block ?_
      refine W_seq ?_
      refine W_reg ?_
      obtain ⟨x14, hx13, hz⟩ := bind_ok hz
      obtain ⟨b13, o13, c13, p13, hv13, hi13, hj13, hM13, hr13⟩ := repL_at hvx1 hx13
      replace hr13 : rep _ (sl p13 (o13 + Int.toNat y7 * 1) 1) x14 := hr13
      refine WL_y (Y_ixL il23 hT6_7 hv13 hT6_9 hi13 hj13) ?_
      refine WL_y (Y_ld1 (.int .i64 x14) ts3 rfl (hS.bvM hM13) hr13) ?_
      refine WL_y (Y_assign (.int .i64 x14) rfl) ?_
      refine WL_nil (nm_then ?_)
      refine W_seq ?_
      refine W_reg ?_
      refine WL_y (Y_move (.int .i64 x14) rfl) ?_
      refine WL_y (Y_move (.int .i64 x2) hT6_1) ?_
      refine WL_y (Y_eql rfl rfl) ?_
      refine WL_nil (nm_then ?_)
      refine W_cond rfl (fun hc15 => ?_) (fun hc15 => ?_)
      · replace hz := bif_ok_t hz hc15
        refine W_seq ?_
        refine W_reg ?_
        refine WL_y (Y_assign (.bool true) rfl) ?_
        refine WL_nil (nm_then ?_)
        cases hz
        exact W_ret (rt_blk (rt_then (rt_then (rt_blk (rt_then (R_t1 rfl rfl ⟨rfl, hS.kept⟩))))))
      · replace hz := bif_ok_f hz hc15
        refine W_skip (nm_blk ?_)
        refine (nm_then ?_)
        refine W_reg ?_
        refine WL_y (Y_add hT6_9 rfl) ?_
        refine WL_y (Y_move (.int .i64 (IntKind.wrap .i64 (y7 + 1))) rfl) ?_
        refine WL_nil (nm_then ?_)
        exact ⟨M5, (IntKind.wrap .i64 (y7 + 1)), hF10, hS, hT6_1, hT6_7, hT6_8, rfl, (by rw [← hrec8]; exact hz)⟩
    · replace hz := bif_ok_f hz hc12
      refine W_exit ?_
      refine ex_then ?_
      refine ex_then ?_
      refine ex_hit ?_
      refine (nm_then ?_)
      refine W_seq ?_
      refine W_reg ?_
      refine WL_y (Y_assign (.bool false) rfl) ?_
      refine WL_nil (nm_then ?_)
      cases hz
      exact W_ret (R_t1 rfl rfl ⟨rfl, hS.kept⟩)

def keepOrders_j1 (c46 : Bool) : Option Bool :=
    some c46

def keepOrdersD (fu : Nat) : Option Bool :=
    (idxV ((Zr.zd : GGraph).known) 1).bind fun x5 =>
    (setV ((Zr.zd : GGraph).known) 1 true).bind fun a8 =>
    (some ({ (Zr.zd : GGraph) with known := a8 } : GGraph)).bind fun d10 =>
    (idxV d10.known 2).bind fun x13 =>
    (setV d10.known 2 true).bind fun a16 =>
    (some ({ d10 with known := a16 } : GGraph)).bind fun d18 =>
    (idxV d18.deps 1).bind fun x25 =>
    (setV d18.deps 1 ([2] : List Int)).bind fun a28 =>
    (some ({ d18 with deps := a28 } : GGraph)).bind fun d30 =>
    (idxV d30.deps 2).bind fun x33 =>
    (setV d30.deps 2 ([1] : List Int)).bind fun a36 =>
    (some ({ d30 with deps := a36 } : GGraph)).bind fun d38 =>
    (gorderD fu d38 2).bind fun r42 =>
    (bif (r42.length : Int) == 2 then
    (idx r42 0).bind fun x52 =>
    (bif x52 == 1 then
    (readyD fu d38 1).bind fun r57 =>
    (bif r57 then
    (reachD fu d38 1).bind fun r62 =>
    (idxV r62 2).bind fun x63 =>
    keepOrders_j1 x63
    else
    keepOrders_j1 false)
    else
    keepOrders_j1 false)
    else
    keepOrders_j1 false)

set_option maxRecDepth 100000 in
set_option maxHeartbeats 4000000 in
theorem keepOrders_ok {M : Mm} {w : World} {fu : Nat} {r : Bool} (hA : Agree M w)  (hz : keepOrdersD fu = some r) :
    Calls Try.prog 17 #[] w (GivesV w (.bool r)) := by
  refine calls_W Try.func17 rfl 33 rfl rfl (by kernel_rfl) fun T hT => ?_
  clear hT
  have hE := Mm.ext.refl w.heap.size noX M
  have hS : St w noX M [] w := St.start hA
  rw [keepOrdersD] at hz
  refine W_seq ?_
  refine W_reg ?_
  refine WL_y (Y_assign (.bool false) rfl) ?_
  refine WL_nil (nm_then ?_)
  refine W_seq ?_
  refine W_reg ?_
  refine WL_c (O_alloc tz26 hS ?_)
  intro b2 w1 hb2 hS
  replace hS : St w noX M [.box b2 (Zr.zc GGraph) 26] w1 := hS
  have zb2 : rep M (Zr.zc GGraph) (Zr.zd : GGraph) := Zr.zr
  refine WL_nil (nm_then ?_)
  refine W_seq ?_
  refine W_reg ?_
  refine WL_y (Y_fa fa26_0 rfl) ?_
  refine WL_y (Y_ixA ia22 rfl rfl (by decide) (by decide)) ?_
  obtain ⟨x5, hx6, hz⟩ := bind_ok hz
  have hw4 : ([.bool true] : List Value).length = 1 := Rep.len (show rep M [Value.bool true] (true : Bool) from rfl)
  have hl4 : ((Zr.zc GGraph)).length = 64 := Rep.len zb2
  have hq7 := (idxV_some hx6)
  obtain ⟨a8, hx9, hz⟩ := bind_ok hz
  obtain ⟨d10, hd4, hz⟩ := bind_ok hz
  have hb4 : rep M (pt (Zr.zc GGraph) (0 + 0 + Int.toNat 1 * 1) [.bool true]) d10 := rep_eq (rep_whole (k := 64) (by rw [pt_length (by omega)]; exact hl4) (GGraph.s0 (rep_root (k := 64) rfl zb2) (vs (k := 1) rfl rfl (GGraph.p0 (rep_root (k := 64) rfl zb2)) (rep_leaf rfl (show rep M [Value.bool true] (true : Bool) from rfl) (by omega)) hx9 (by omega) (by omega) (by omega)) (by omega) (by omega) (by omega))) hd4
  generalize hg4 : (pt (Zr.zc GGraph) (0 + 0 + Int.toNat 1 * 1) [.bool true]) = cs4 at hb4
  refine WL_c (O_st (j := 0) (v := .bool true) (ws := [.bool true]) hS rfl (by kernel_rfl) rfl rfl rfl hw4 (Rep.one (show rep M [Value.bool true] (true : Bool) from rfl)) (by omega) ?_)
  rw [hg4]
  clear hg4
  intro w3 hS
  replace hS : St w noX M [.box b2 cs4 26] w3 := hS
  refine WL_y (Y_fa fa26_0 rfl) ?_
  refine WL_y (Y_ixA ia22 rfl rfl (by decide) (by decide)) ?_
  obtain ⟨x13, hx14, hz⟩ := bind_ok hz
  have hw12 : ([.bool true] : List Value).length = 1 := Rep.len (show rep M [Value.bool true] (true : Bool) from rfl)
  have hl12 : (cs4).length = 64 := Rep.len hb4
  have hq15 := (idxV_some hx14)
  obtain ⟨a16, hx17, hz⟩ := bind_ok hz
  obtain ⟨d18, hd12, hz⟩ := bind_ok hz
  have hb12 : rep M (pt cs4 (0 + 0 + Int.toNat 2 * 1) [.bool true]) d18 := rep_eq (rep_whole (k := 64) (by rw [pt_length (by omega)]; exact hl12) (GGraph.s0 (rep_root (k := 64) rfl hb4) (vs (k := 1) rfl rfl (GGraph.p0 (rep_root (k := 64) rfl hb4)) (rep_leaf rfl (show rep M [Value.bool true] (true : Bool) from rfl) (by omega)) hx17 (by omega) (by omega) (by omega)) (by omega) (by omega) (by omega))) hd12
  generalize hg12 : (pt cs4 (0 + 0 + Int.toNat 2 * 1) [.bool true]) = cs12 at hb12
  refine WL_c (O_st (j := 0) (v := .bool true) (ws := [.bool true]) hS rfl (by kernel_rfl) rfl rfl rfl hw12 (Rep.one (show rep M [Value.bool true] (true : Bool) from rfl)) (by omega) ?_)
  rw [hg12]
  clear hg12
  intro w11 hS
  replace hS : St w noX M [.box b2 cs12 26] w11 := hS
  refine WL_nil (nm_then ?_)
  refine W_seq ?_
  refine W_reg ?_
  refine WL_c (O_bslice (α := Int) (l := ([2] : List Int)) [.int .i64 2] tl23 (bpc rfl bp0) rfl rfl (by decide) (by decide) (by decide) hS (brc (show rep M [Value.int .i64 2] (2 : Int) from rfl) br0) ?_)
  intro v20 M20 w19 hx20 hv20 hS
  replace hb12 := Rep.mono hx20.1 hb12
  replace hE := Mm.ext.trans hE hx20
  refine WL_c (O_bslice (α := Int) (l := ([1] : List Int)) [.int .i64 1] tl23 (bpc rfl bp0) rfl rfl (by decide) (by decide) (by decide) hS (brc (show rep M20 [Value.int .i64 1] (1 : Int) from rfl) br0) ?_)
  intro v22 M22 w21 hx22 hv22 hS
  replace hb12 := Rep.mono hx22.1 hb12
  replace hv20 := repL.mono hx22.1 hv20
  replace hE := Mm.ext.trans hE hx22
  refine WL_y (Y_fa fa26_1 rfl) ?_
  refine WL_y (Y_ixA ia24 rfl rfl (by decide) (by decide)) ?_
  obtain ⟨x25, hx26, hz⟩ := bind_ok hz
  have hw24 : ([v20] : List Value).length = 1 := Rep.len (repL_rep hv20)
  have hl24 : (cs12).length = 64 := Rep.len hb12
  have hq27 := (idxV_some hx26)
  obtain ⟨a28, hx29, hz⟩ := bind_ok hz
  obtain ⟨d30, hd24, hz⟩ := bind_ok hz
  have hb24 : rep M22 (pt cs12 (0 + 32 + Int.toNat 1 * 1) [v20]) d30 := rep_eq (rep_whole (k := 64) (by rw [pt_length (by omega)]; exact hl24) (GGraph.s1 (rep_root (k := 64) rfl hb12) (vs (k := 1) rfl rfl (GGraph.p1 (rep_root (k := 64) rfl hb12)) (rep_leaf rfl (repL_rep hv20) (by omega)) hx29 (by omega) (by omega) (by omega)) (by omega) (by omega) (by omega))) hd24
  generalize hg24 : (pt cs12 (0 + 32 + Int.toNat 1 * 1) [v20]) = cs24 at hb24
  refine WL_c (O_st (j := 0) (v := v20) (ws := [v20]) hS rfl (by kernel_rfl) rfl rfl (repL_cells hv20) hw24 (Rep.one (repL_rep hv20)) (by omega) ?_)
  rw [hg24]
  clear hg24
  intro w23 hS
  replace hS : St w noX M22 [.box b2 cs24 26] w23 := hS
  refine WL_y (Y_fa fa26_1 rfl) ?_
  refine WL_y (Y_ixA ia24 rfl rfl (by decide) (by decide)) ?_
  obtain ⟨x33, hx34, hz⟩ := bind_ok hz
  have hw32 : ([v22] : List Value).length = 1 := Rep.len (repL_rep hv22)
  have hl32 : (cs24).length = 64 := Rep.len hb24
  have hq35 := (idxV_some hx34)
  obtain ⟨a36, hx37, hz⟩ := bind_ok hz
  obtain ⟨d38, hd32, hz⟩ := bind_ok hz
  have hb32 : rep M22 (pt cs24 (0 + 32 + Int.toNat 2 * 1) [v22]) d38 := rep_eq (rep_whole (k := 64) (by rw [pt_length (by omega)]; exact hl32) (GGraph.s1 (rep_root (k := 64) rfl hb24) (vs (k := 1) rfl rfl (GGraph.p1 (rep_root (k := 64) rfl hb24)) (rep_leaf rfl (repL_rep hv22) (by omega)) hx37 (by omega) (by omega) (by omega)) (by omega) (by omega) (by omega))) hd32
  generalize hg32 : (pt cs24 (0 + 32 + Int.toNat 2 * 1) [v22]) = cs32 at hb32
  refine WL_c (O_st (j := 0) (v := v22) (ws := [v22]) hS rfl (by kernel_rfl) rfl rfl (repL_cells hv22) hw32 (Rep.one (repL_rep hv22)) (by omega) ?_)
  rw [hg32]
  clear hg32
  intro w31 hS
  replace hS : St w noX M22 [.box b2 cs32 26] w31 := hS
  refine WL_nil (nm_then ?_)
  refine W_seq ?_
  refine W_reg ?_
  have ha39 := (rep_root (k := 64) rfl hb32)
  refine WL_y (Y_ldn ta26 rfl (hS.bvB 0 rfl) (Rep.len ha39)) ?_
  obtain ⟨r42, hr41, hz⟩ := bind_ok hz
  refine WL_c (O_mem (vs := [.agg (sl cs32 (0) 64).toArray, .int .i64 2]) (rv := (fun M' u => repL M' u r42)) cb15 (args2 rfl rfl) hS (gorder_ok hS.agree ha39 hr41) ?_)
  intro u41 M41 w40 hx41 hu41 hS
  have f41 : repL M41 u41 r42 := hu41
  replace hb32 := Rep.mono hx41.1 hb32
  replace ha39 := Rep.mono hx41.1 ha39
  replace hE := Mm.ext.trans hE hx41
  refine WL_y (Y_assign (u41) rfl) ?_
  refine WL_nil (nm_then ?_)
  refine W_seqJ (fun T' w' => ∃ M44 c46, Mm.ext w.heap.size noX M41 M44 ∧ St w noX M44 [.box b2 cs32 26] w' ∧ T' 0 = .bool c46 ∧ keepOrders_j1 c46 = some r) ?_ ?_
  · have hF48 := Mm.ext.refl w.heap.size noX M41
    refine W_reg ?_
    refine WL_y (Y_move (u41) rfl) ?_
    obtain ⟨a49, c49, hv49, _⟩ := repL_shape f41
    refine WL_y (Y_lenL Try.underlying23 (tr2 hv49 rfl)) ?_
    refine WL_y (Y_eql rfl rfl) ?_
    refine WL_y (Y_move (.bool ((r42.length : Int) == 2)) rfl) ?_
    rcases Bool.eq_false_or_eq_true ((r42.length : Int) == 2) with hc50 | hc50
    · replace hz := bif_ok_t hz hc50
      refine WL_gy rfl (bt hc50 rfl) (Y_move (u41) rfl) ?_
      obtain ⟨x52, hx51, hz⟩ := bind_ok hz
      obtain ⟨b51, o51, c51, p51, hv51, hi51, hj51, hM51, hr51⟩ := repL_at f41 hx51
      replace hr51 : rep _ (sl p51 (o51 + Int.toNat 0 * 1) 1) x52 := hr51
      refine WL_gy rfl (bt hc50 rfl) (Y_ixL il23 rfl hv51 rfl hi51 hj51) ?_
      refine WL_gy rfl (bt hc50 rfl) (Y_ld1 (.int .i64 x52) ts3 rfl (hS.bvM hM51) hr51) ?_
      refine WL_gy rfl (bt hc50 rfl) (Y_eql rfl rfl) ?_
      refine WL_y (Y_pick_t (.bool (x52 == 1)) (bt hc50 rfl) rfl) ?_
      refine WL_y (Y_move (.bool (x52 == 1)) rfl) ?_
      rcases Bool.eq_false_or_eq_true (x52 == 1) with hc53 | hc53
      · replace hz := bif_ok_t hz hc53
        have ha54 := (rep_root (k := 64) rfl hb32)
        refine WL_gy rfl (bt hc53 rfl) (Y_ldn ta26 rfl (hS.bvB 0 rfl) (Rep.len ha54)) ?_
        obtain ⟨r57, hr56, hz⟩ := bind_ok hz
        refine WL_g rfl (bt hc53 rfl) (O_val (vs := [.agg (sl cs32 (0) 64).toArray, .int .i64 1]) (v := .bool r57) cb16 (args2 rfl rfl) hS (ready_ok hS.agree ha54 hr56) ?_)
        intro w55 hS
        refine WL_y (Y_pick_t (.bool r57) (bt hc53 rfl) rfl) ?_
        refine WL_y (Y_move (.bool r57) rfl) ?_
        rcases Bool.eq_false_or_eq_true r57 with hc58 | hc58
        · replace hz := bif_ok_t hz hc58
          have ha59 := (rep_root (k := 64) rfl hb32)
          refine WL_gy rfl (bt hc58 rfl) (Y_ldn ta26 rfl (hS.bvB 0 rfl) (Rep.len ha59)) ?_
          obtain ⟨r62, hr61, hz⟩ := bind_ok hz
          refine WL_g rfl (bt hc58 rfl) (O_mem (vs := [.agg (sl cs32 (0) 64).toArray, .int .i64 1]) (rv := (fun M' u => ∃ cs, u = .agg cs.toArray ∧ rep M' cs r62)) cb18 (args2 rfl rfl) hS (reach_ok hS.agree ha59 hr61) ?_)
          intro u61 M61 w60 hx61 hu61 hS
          obtain ⟨c61, hq61, f61⟩ := hu61
          subst hq61
          replace hb32 := Rep.mono hx61.1 hb32
          replace f41 := repL.mono hx61.1 f41
          replace ha54 := Rep.mono hx61.1 ha54
          replace ha59 := Rep.mono hx61.1 ha59
          replace hE := Mm.ext.trans hE hx61
          replace hF48 := Mm.ext.trans hF48 hx61
          obtain ⟨x63, hx64, hz⟩ := bind_ok hz
          obtain ⟨hx64a, hx64b, hx64⟩ := repV_at f61 hx64
          refine WL_gy rfl (bt hc58 rfl) (Y_ixV1 (.bool x63) iv22 rfl rfl hx64a hx64b hx64) ?_
          refine WL_y (Y_pick_t (.bool x63) (bt hc58 rfl) rfl) ?_
          refine WL_y (Y_assign (.bool x63) rfl) ?_
          refine WL_nil (nm_then ?_)
          exact ⟨M61, x63, hF48, hS, rfl, hz⟩
        · replace hz := bif_ok_f hz hc58
          refine WL_s (j := 13) rfl (bf hc58 rfl) rfl ?_
          refine WL_s (j := 13) rfl (bf hc58 rfl) rfl ?_
          refine WL_s (j := 13) rfl (bf hc58 rfl) rfl ?_
          refine WL_y (Y_pick_f (.bool false) (bf hc58 rfl) rfl) ?_
          refine WL_y (Y_assign (.bool false) rfl) ?_
          refine WL_nil (nm_then ?_)
          exact ⟨M41, false, hF48, hS, rfl, hz⟩
      · replace hz := bif_ok_f hz hc53
        refine WL_s (j := 9) rfl (bf hc53 rfl) rfl ?_
        refine WL_s (j := 9) rfl (bf hc53 rfl) rfl ?_
        refine WL_y (Y_pick_f (.bool false) (bf hc53 rfl) rfl) ?_
        refine WL_y (Y_move (.bool false) rfl) ?_
        refine WL_s (j := 13) rfl rfl rfl ?_
        refine WL_s (j := 13) rfl rfl rfl ?_
        refine WL_s (j := 13) rfl rfl rfl ?_
        refine WL_y (Y_pick_f (.bool false) rfl rfl) ?_
        refine WL_y (Y_assign (.bool false) rfl) ?_
        refine WL_nil (nm_then ?_)
        exact ⟨M41, false, hF48, hS, rfl, hz⟩
    · replace hz := bif_ok_f hz hc50
      refine WL_s (j := 3) rfl (bf hc50 rfl) rfl ?_
      refine WL_s (j := 3) rfl (bf hc50 rfl) rfl ?_
      refine WL_s (j := 3) rfl (bf hc50 rfl) rfl ?_
      refine WL_s (j := 3) rfl (bf hc50 rfl) rfl ?_
      refine WL_y (Y_pick_f (.bool false) (bf hc50 rfl) rfl) ?_
      refine WL_y (Y_move (.bool false) rfl) ?_
      refine WL_s (j := 9) rfl rfl rfl ?_
      refine WL_s (j := 9) rfl rfl rfl ?_
      refine WL_y (Y_pick_f (.bool false) rfl rfl) ?_
      refine WL_y (Y_move (.bool false) rfl) ?_
      refine WL_s (j := 13) rfl rfl rfl ?_
      refine WL_s (j := 13) rfl rfl rfl ?_
      refine WL_s (j := 13) rfl rfl rfl ?_
      refine WL_y (Y_pick_f (.bool false) rfl rfl) ?_
      refine WL_y (Y_assign (.bool false) rfl) ?_
      refine WL_nil (nm_then ?_)
      exact ⟨M41, false, hF48, hS, rfl, hz⟩
  · rintro T45 w43 ⟨M44, c46, hx47, hS, hT45_0, hz⟩
    replace hb32 := Rep.mono hx47.1 hb32
    replace hE := Mm.ext.trans hE hx47
    rw [keepOrders_j1] at hz
    cases hz
    exact W_ret (R_t1 rfl hT45_0 ⟨rfl, (St.dropB hS hb2).kept⟩)

def graphAhead_j2 (y30 : Int) (rec31 : (Vector Bool 32) → Int → Option Bool) (d40 : Vector Bool 32) : Option Bool :=
    rec31 d40 (IntKind.wrap .i64 (y30 + 1))

def graphAhead_j4 (y62 : Int) (rec63 : Int → Option Bool) : Option Bool :=
    rec63 (IntKind.wrap .i64 (y62 + 1))

def graphAhead_j5 (y62 : Int) (rec63 : Int → Option Bool) (c78 : Bool) : Option Bool :=
    (bif c78 then
    some false
    else
    graphAhead_j4 y62 rec63)

def graphAhead_l2 (fu : Nat) (x1 : GGraph) (d29 : Vector Bool 32) (y30 : Int) (rec31 : (Vector Bool 32) → Int → Option Bool) (x44 : Int) (d57 : Vector Bool 32) : Nat → Int → Option Bool
  | 0, _ => none
  | n + 1, y62 =>
    (bif decide (y62 < 32) then
    (idxV d57 y62).bind fun x73 =>
    (bif x73 then
    (inR y62 32).bind fun _ =>
    (idxV d29 y62).bind fun x85 =>
    (bif !x85 then
    (reachD fu x1 y62).bind fun r91 =>
    (idxV r91 x44).bind fun x92 =>
    graphAhead_j5 y62 (graphAhead_l2 fu x1 d29 y30 rec31 x44 d57 n) (!x92)
    else
    graphAhead_j5 y62 (graphAhead_l2 fu x1 d29 y30 rec31 x44 d57 n) false)
    else
    graphAhead_j5 y62 (graphAhead_l2 fu x1 d29 y30 rec31 x44 d57 n) false)
    else
    (inR x44 32).bind fun _ =>
    (idxV d29 x44).bind fun x98 =>
    (setV d29 x44 true).bind fun a101 =>
    (some a101).bind fun d103 =>
    graphAhead_j2 y30 rec31 d103)

def graphAhead_j3 (fu : Nat) (x1 : GGraph) (d29 : Vector Bool 32) (y30 : Int) (rec31 : (Vector Bool 32) → Int → Option Bool) (x44 : Int) : Option Bool :=
    (reachD fu x1 x44).bind fun r52 =>
    (some r52).bind fun d57 =>
    graphAhead_l2 fu x1 d29 y30 rec31 x44 d57 fu 0

def graphAhead_j6 (fu : Nat) (x1 : GGraph) (d29 : Vector Bool 32) (y30 : Int) (rec31 : (Vector Bool 32) → Int → Option Bool) (x44 : Int) (c108 : Bool) : Option Bool :=
    (bif c108 then
    some false
    else
    graphAhead_j3 fu x1 d29 y30 rec31 x44)

def graphAhead_l1 (fu : Nat) (x1 : GGraph) (r8 : (List Int)) (d21 : Vector Bool 32) : Nat → (Vector Bool 32) → Int → Option Bool
  | 0, _, _ => none
  | n + 1, d29, y30 =>
    (bif decide (y30 < (r8.length : Int)) then
    (idx r8 y30).bind fun x44 =>
    (bif decide (x44 < 0) then
    graphAhead_j6 fu x1 d29 y30 (graphAhead_l1 fu x1 r8 d21 n) x44 true
    else
    (bif decide (x44 ≥ 32) then
    graphAhead_j6 fu x1 d29 y30 (graphAhead_l1 fu x1 r8 d21 n) x44 true
    else
    (inR x44 32).bind fun _ =>
    (idxV d29 x44).bind fun x116 =>
    (bif x116 then
    graphAhead_j6 fu x1 d29 y30 (graphAhead_l1 fu x1 r8 d21 n) x44 true
    else
    (inR x44 32).bind fun _ =>
    (idxV d21 x44).bind fun x121 =>
    graphAhead_j6 fu x1 d29 y30 (graphAhead_l1 fu x1 r8 d21 n) x44 (!x121))))
    else
    some (decide (d29 = d21)))

def graphAhead_j1 (fu : Nat) (x1 : GGraph) (x2 : Int) (r8 : (List Int)) : Option Bool :=
    (reachD fu x1 x2).bind fun r16 =>
    (some r16).bind fun d21 =>
    graphAhead_l1 fu x1 r8 d21 fu (Zr.zd : Vector Bool 32) 0

def graphAhead_j8 (c135 : Bool) : Option Bool :=
    some c135

def graphAhead_j7 (fu : Nat) (x1 : GGraph) (x2 : Int) (r8 : (List Int)) (c129 : Bool) : Option Bool :=
    (bif c129 then
    (bif (r8.length : Int) == 0 then
    (keepOrdersD fu).bind fun r142 =>
    graphAhead_j8 r142
    else
    graphAhead_j8 false)
    else
    graphAhead_j1 fu x1 x2 r8)

def graphAheadD (fu : Nat) (x1 : GGraph) (x2 : Int) : Option Bool :=
    (gorderD fu x1 x2).bind fun r8 =>
    (readyD fu x1 x2).bind fun r147 =>
    (bif !r147 then
    graphAhead_j7 fu x1 x2 r8 true
    else
    (keepOrdersD fu).bind fun r151 =>
    graphAhead_j7 fu x1 x2 r8 (!r151))

set_option maxRecDepth 100000 in
set_option maxHeartbeats 4000000 in
theorem graphAhead_ok {M : Mm} {w : World} {cx1 : List Value} {x1 : GGraph} {x2 : Int} {fu : Nat} {r : Bool} (hA : Agree M w) (hcx1 : rep M cx1 x1) (hz : graphAheadD fu x1 x2 = some r) :
    Calls Try.prog 3 #[.agg cx1.toArray, .int .i64 x2] w (GivesV w (.bool r)) := by
  refine calls_W Try.func3 rfl 86 rfl rfl (by kernel_rfl) fun T hT => ?_
  have hT_0 : T 0 = .agg cx1.toArray := hT 0
  have hT_1 : T 1 = .int .i64 x2 := hT 1
  clear hT
  have hE := Mm.ext.refl w.heap.size noX M
  have hS : St w noX M [] w := St.start hA
  rw [graphAheadD] at hz
  refine W_seq ?_
  refine W_reg ?_
  refine WL_c (O_box (v := .agg cx1.toArray) (cs := cx1) hT_0 rfl hS ?_)
  intro b4 w3 hb4 hS
  replace hS : St w noX M [.box b4 cx1 26] w3 := hS
  refine WL_y (Y_assign (.bool false) rfl) ?_
  refine WL_nil (nm_then ?_)
  refine W_seq ?_
  refine W_reg ?_
  have ha5 := (rep_root (k := 64) rfl hcx1)
  refine WL_y (Y_ldn ta26 rfl (hS.bvB 0 rfl) (Rep.len ha5)) ?_
  refine WL_y (Y_move (.int .i64 x2) hT_1) ?_
  obtain ⟨r8, hr7, hz⟩ := bind_ok hz
  refine WL_c (O_mem (vs := [.agg (sl cx1 (0) 64).toArray, .int .i64 x2]) (rv := (fun M' u => repL M' u r8)) cb15 (args2 rfl rfl) hS (gorder_ok hS.agree ha5 hr7) ?_)
  intro u7 M7 w6 hx7 hu7 hS
  have f7 : repL M7 u7 r8 := hu7
  replace hcx1 := Rep.mono hx7.1 hcx1
  replace ha5 := Rep.mono hx7.1 ha5
  replace hE := Mm.ext.trans hE hx7
  refine WL_y (Y_assign (u7) rfl) ?_
  refine WL_nil (nm_then ?_)
  refine W_seqJ (fun T' w' => ∃ M10, Mm.ext w.heap.size noX M7 M10 ∧ St w noX M10 [.box b4 cx1 26] w' ∧ T' 1 = .int .i64 x2 ∧ T' 2 = .pointer (some ⟨b4, 0, none⟩) ∧ T' 5 = u7 ∧ graphAhead_j1 fu x1 x2 r8 = some r) ?_ ?_
  · have hF125 := Mm.ext.refl w.heap.size noX M7
    refine W_seqJ (fun T' w' => ∃ M127 c129, Mm.ext w.heap.size noX M7 M127 ∧ St w noX M127 [.box b4 cx1 26] w' ∧ T' 1 = .int .i64 x2 ∧ T' 2 = .pointer (some ⟨b4, 0, none⟩) ∧ T' 5 = u7 ∧ T' 23 = .bool c129 ∧ graphAhead_j7 fu x1 x2 r8 c129 = some r) ?_ ?_
    · have hF143 := Mm.ext.refl w.heap.size noX M7
      refine W_reg ?_
      have ha144 := (rep_root (k := 64) rfl hcx1)
      refine WL_y (Y_ldn ta26 rfl (hS.bvB 0 rfl) (Rep.len ha144)) ?_
      refine WL_y (Y_move (.int .i64 x2) hT_1) ?_
      obtain ⟨r147, hr146, hz⟩ := bind_ok hz
      refine WL_c (O_val (vs := [.agg (sl cx1 (0) 64).toArray, .int .i64 x2]) (v := .bool r147) cb16 (args2 rfl rfl) hS (ready_ok hS.agree ha144 hr146) ?_)
      intro w145 hS
      refine WL_y (Y_not rfl) ?_
      refine WL_y (Y_move (.bool (!r147)) rfl) ?_
      rcases Bool.eq_false_or_eq_true (!r147) with hc148 | hc148
      · replace hz := bif_ok_t hz hc148
        refine WL_s (j := 4) rfl (bt hc148 rfl) rfl ?_
        refine WL_s (j := 4) rfl (bt hc148 rfl) rfl ?_
        refine WL_y (Y_pick_t (.bool true) (bt hc148 rfl) rfl) ?_
        refine WL_nil (nm_then ?_)
        exact ⟨M7, true, hF143, hS, hT_1, rfl, rfl, rfl, hz⟩
      · replace hz := bif_ok_f hz hc148
        obtain ⟨r151, hr150, hz⟩ := bind_ok hz
        refine WL_g rfl (bf hc148 rfl) (O_val (vs := []) (v := .bool r151) cb17 args0 hS (keepOrders_ok hS.agree hr150) ?_)
        intro w149 hS
        refine WL_gy rfl (bf hc148 rfl) (Y_not rfl) ?_
        refine WL_y (Y_pick_f (.bool (!r151)) (bf hc148 rfl) rfl) ?_
        refine WL_nil (nm_then ?_)
        exact ⟨M7, (!r151), hF143, hS, hT_1, rfl, rfl, rfl, hz⟩
    · rintro T128 w126 ⟨M127, c129, hx130, hS, hT128_1, hT128_2, hT128_5, hT128_23, hz⟩
      replace hcx1 := Rep.mono hx130.1 hcx1
      replace f7 := repL.mono hx130.1 f7
      replace hE := Mm.ext.trans hE hx130
      replace hF125 := Mm.ext.trans hF125 hx130
      rw [graphAhead_j7] at hz
      refine W_cond hT128_23 (fun hc131 => ?_) (fun hc131 => ?_)
      · replace hz := bif_ok_t hz hc131
        refine W_seqJ (fun T' w' => ∃ M133 c135, Mm.ext w.heap.size noX M127 M133 ∧ St w noX M133 [.box b4 cx1 26] w' ∧ T' 4 = .bool c135 ∧ graphAhead_j8 c135 = some r) ?_ ?_
        · have hF137 := Mm.ext.refl w.heap.size noX M127
          refine W_reg ?_
          refine WL_y (Y_move (u7) hT128_5) ?_
          obtain ⟨a138, c138, hv138, _⟩ := repL_shape f7
          refine WL_y (Y_lenL Try.underlying23 (tr2 hv138 rfl)) ?_
          refine WL_y (Y_eql rfl rfl) ?_
          refine WL_y (Y_move (.bool ((r8.length : Int) == 0)) rfl) ?_
          rcases Bool.eq_false_or_eq_true ((r8.length : Int) == 0) with hc139 | hc139
          · replace hz := bif_ok_t hz hc139
            obtain ⟨r142, hr141, hz⟩ := bind_ok hz
            refine WL_g rfl (bt hc139 rfl) (O_val (vs := []) (v := .bool r142) cb17 args0 hS (keepOrders_ok hS.agree hr141) ?_)
            intro w140 hS
            refine WL_y (Y_pick_t (.bool r142) (bt hc139 rfl) rfl) ?_
            refine WL_y (Y_assign (.bool r142) rfl) ?_
            refine WL_nil (nm_then ?_)
            exact ⟨M127, r142, hF137, hS, rfl, hz⟩
          · replace hz := bif_ok_f hz hc139
            refine WL_s (j := 3) rfl (bf hc139 rfl) rfl ?_
            refine WL_y (Y_pick_f (.bool false) (bf hc139 rfl) rfl) ?_
            refine WL_y (Y_assign (.bool false) rfl) ?_
            refine WL_nil (nm_then ?_)
            exact ⟨M127, false, hF137, hS, rfl, hz⟩
        · rintro T134 w132 ⟨M133, c135, hx136, hS, hT134_4, hz⟩
          replace hcx1 := Rep.mono hx136.1 hcx1
          replace hE := Mm.ext.trans hE hx136
          replace hF125 := Mm.ext.trans hF125 hx136
          rw [graphAhead_j8] at hz
          cases hz
          exact W_ret (rt_then (R_t1 rfl hT134_4 ⟨rfl, (St.dropB hS hb4).kept⟩))
      · replace hz := bif_ok_f hz hc131
        refine W_skip (nm_then ?_)
        exact ⟨M127, hF125, hS, hT128_1, hT128_2, hT128_5, hz⟩
  · rintro T11 w9 ⟨M10, hx12, hS, hT11_1, hT11_2, hT11_5, hz⟩
    replace hcx1 := Rep.mono hx12.1 hcx1
    replace f7 := repL.mono hx12.1 f7
    replace hE := Mm.ext.trans hE hx12
    rw [graphAhead_j1] at hz
    refine W_seq ?_
    refine W_reg ?_
    have ha13 := (rep_root (k := 64) rfl hcx1)
    refine WL_y (Y_ldn ta26 hT11_2 (hS.bvB 0 rfl) (Rep.len ha13)) ?_
    refine WL_y (Y_move (.int .i64 x2) hT11_1) ?_
    obtain ⟨r16, hr15, hz⟩ := bind_ok hz
    refine WL_c (O_mem (vs := [.agg (sl cx1 (0) 64).toArray, .int .i64 x2]) (rv := (fun M' u => ∃ cs, u = .agg cs.toArray ∧ rep M' cs r16)) cb18 (args2 rfl rfl) hS (reach_ok hS.agree ha13 hr15) ?_)
    intro u15 M15 w14 hx15 hu15 hS
    obtain ⟨c15, hq15, f15⟩ := hu15
    subst hq15
    replace hcx1 := Rep.mono hx15.1 hcx1
    replace f7 := repL.mono hx15.1 f7
    replace ha13 := Rep.mono hx15.1 ha13
    replace hE := Mm.ext.trans hE hx15
    refine WL_c (O_alloc tz22 hS ?_)
    intro b18 w17 hb18 hS
    replace hS : St w noX M15 [.box b18 (Zr.zc (Vector Bool 32)) 22, .box b4 cx1 26] w17 := hS
    have zb18 : rep M15 (Zr.zc (Vector Bool 32)) (Zr.zd : Vector Bool 32) := Zr.zr
    have hw20 : (c15 : List Value).length = 32 := Rep.len f15
    have hl20 : ((Zr.zc (Vector Bool 32))).length = 32 := Rep.len zb18
    obtain ⟨d21, hd20, hz⟩ := bind_ok hz
    have hb20 : rep M15 (pt (Zr.zc (Vector Bool 32)) (0) c15) d21 := rep_eq (rep_whole (k := 32) (by rw [pt_length (by omega)]; exact hl20) (rep_leaf rfl f15 (by omega))) hd20
    generalize hg20 : (pt (Zr.zc (Vector Bool 32)) (0) c15) = cs20 at hb20
    refine WL_c (O_st (j := 0) (v := .agg c15.toArray) (ws := c15) hS rfl (by kernel_rfl) rfl rfl rfl hw20 (Rep.one f15) (by omega) ?_)
    rw [hg20]
    clear hg20
    intro w19 hS
    replace hS : St w noX M15 [.box b18 cs20 22, .box b4 cx1 26] w19 := hS
    refine WL_nil (nm_then ?_)
    refine W_seq ?_
    refine W_reg ?_
    refine WL_c (O_alloc tz22 hS ?_)
    intro b23 w22 hb23 hS
    replace hS : St w noX M15 [.box b23 (Zr.zc (Vector Bool 32)) 22, .box b18 cs20 22, .box b4 cx1 26] w22 := hS
    have zb23 : rep M15 (Zr.zc (Vector Bool 32)) (Zr.zd : Vector Bool 32) := Zr.zr
    refine WL_nil (nm_then ?_)
    refine W_seq ?_
    refine W_seq ?_
    refine W_reg ?_
    refine WL_y (Y_move (u7) hT11_5) ?_
    obtain ⟨a24, c24, hv24, _⟩ := repL_shape f7
    refine WL_y (Y_lenL Try.underlying23 (tr2 hv24 rfl)) ?_
    refine WL_y (Y_move (.int .i64 0) rfl) ?_
    refine WL_nil (nm_then ?_)
    refine W_block ?_
    refine W_loop (fun k32 T' w' => ∃ M26 cs28 d29 y30, Mm.ext w.heap.size noX M15 M26 ∧ St w noX M26 [.box b23 cs28 22, .box b18 cs20 22, .box b4 cx1 26] w' ∧ rep M26 cs28 d29 ∧ T' 2 = .pointer (some ⟨b4, 0, none⟩) ∧ T' 6 = .pointer (some ⟨b18, 0, none⟩) ∧ T' 7 = .pointer (some ⟨b23, 0, none⟩) ∧ T' 33 = u7 ∧ T' 34 = .int .i64 (r8.length : Int) ∧ T' 35 = .int .i64 y30 ∧ graphAhead_l1 fu x1 r8 d21 k32 d29 y30 = some r) fu ?_ ?_ ?_
    · exact ⟨M15, (Zr.zc (Vector Bool 32)), (Zr.zd : Vector Bool 32), (0 : Int), (Mm.ext.refl _ _ _), hS, zb23, hT11_2, rfl, rfl, rfl, rfl, rfl, hz⟩
    · rintro T' w' ⟨_, _, _, _, _, _, _, _, _, _, _, _, _, hz⟩
      rw [graphAhead_l1] at hz
      cases hz
    · intro k32
      rintro T27 w25 ⟨M26, cs28, d29, y30, hx34, hS, hb28, hT27_2, hT27_6, hT27_7, hT27_33, hT27_34, hT27_35, hz⟩
      replace hcx1 := Rep.mono hx34.1 hcx1
      replace f7 := repL.mono hx34.1 f7
      replace hb20 := Rep.mono hx34.1 hb20
      replace hE := Mm.ext.trans hE hx34
      have hF33 := hx34
      rw [graphAhead_l1] at hz
      obtain ⟨rec31, hrec31⟩ : ∃ f, f = graphAhead_l1 fu x1 r8 d21 k32 := ⟨_, rfl⟩
      rw [← hrec31] at hz
      refine W_seq ?_
      refine W_reg ?_
      refine WL_y (Y_lss hT27_35 hT27_34) ?_
      refine WL_nil (nm_then ?_)
      refine W_seq ?_
      refine W_cond rfl (fun hc35 => ?_) (fun hc35 => ?_)
      · replace hz := bif_ok_t hz hc35
        refine W_skip (nm_then ?_)
        refine W_seqJ (fun T' w' => ∃ M37 cs39 d40, Mm.ext w.heap.size noX M26 M37 ∧ St w noX M37 [.box b23 cs39 22, .box b18 cs20 22, .box b4 cx1 26] w' ∧ rep M37 cs39 d40 ∧ T' 2 = .pointer (some ⟨b4, 0, none⟩) ∧ T' 6 = .pointer (some ⟨b18, 0, none⟩) ∧ T' 7 = .pointer (some ⟨b23, 0, none⟩) ∧ T' 33 = u7 ∧ T' 34 = .int .i64 (r8.length : Int) ∧ T' 35 = .int .i64 y30 ∧ graphAhead_j2 y30 rec31 d40 = some r) ?_ ?_
        · have hF42 := Mm.ext.refl w.heap.size noX M26
          refine W_block ?_
          refine W_seq ?_
          refine W_reg ?_
          obtain ⟨x44, hx43, hz⟩ := bind_ok hz
          obtain ⟨b43, o43, c43, p43, hv43, hi43, hj43, hM43, hr43⟩ := repL_at f7 hx43
          replace hr43 : rep _ (sl p43 (o43 + Int.toNat y30 * 1) 1) x44 := hr43
          refine WL_y (Y_ixL il23 hT27_33 hv43 hT27_35 hi43 hj43) ?_
          refine WL_y (Y_ld1 (.int .i64 x44) ts3 rfl (hS.bvM hM43) hr43) ?_
          refine WL_y (Y_assign (.int .i64 x44) rfl) ?_
          refine WL_nil (nm_then ?_)
          refine W_seqJ (fun T' w' => ∃ M46, Mm.ext w.heap.size noX M26 M46 ∧ St w noX M46 [.box b23 cs28 22, .box b18 cs20 22, .box b4 cx1 26] w' ∧ T' 2 = .pointer (some ⟨b4, 0, none⟩) ∧ T' 6 = .pointer (some ⟨b18, 0, none⟩) ∧ T' 7 = .pointer (some ⟨b23, 0, none⟩) ∧ T' 9 = .int .i64 x44 ∧ T' 33 = u7 ∧ T' 34 = .int .i64 (r8.length : Int) ∧ T' 35 = .int .i64 y30 ∧ graphAhead_j3 fu x1 d29 y30 rec31 x44 = some r) ?_ ?_
          · have hF104 := Mm.ext.refl w.heap.size noX M26
            refine W_seqJ (fun T' w' => ∃ M106 c108, Mm.ext w.heap.size noX M26 M106 ∧ St w noX M106 [.box b23 cs28 22, .box b18 cs20 22, .box b4 cx1 26] w' ∧ T' 2 = .pointer (some ⟨b4, 0, none⟩) ∧ T' 6 = .pointer (some ⟨b18, 0, none⟩) ∧ T' 7 = .pointer (some ⟨b23, 0, none⟩) ∧ T' 9 = .int .i64 x44 ∧ T' 33 = u7 ∧ T' 34 = .int .i64 (r8.length : Int) ∧ T' 35 = .int .i64 y30 ∧ T' 55 = .bool c108 ∧ graphAhead_j6 fu x1 d29 y30 rec31 x44 c108 = some r) ?_ ?_
            · have hF111 := Mm.ext.refl w.heap.size noX M26
              refine W_reg ?_
              refine WL_y (Y_move (.int .i64 x44) rfl) ?_
              refine WL_y (Y_lss rfl rfl) ?_
              refine WL_y (Y_move (.bool (decide (x44 < 0))) rfl) ?_
              rcases Bool.eq_false_or_eq_true (decide (x44 < 0)) with hc112 | hc112
              · replace hz := bif_ok_t hz hc112
                refine WL_s (j := 2) rfl (bt hc112 rfl) rfl ?_
                refine WL_s (j := 2) rfl (bt hc112 rfl) rfl ?_
                refine WL_y (Y_pick_t (.bool true) (bt hc112 rfl) rfl) ?_
                refine WL_y (Y_move (.bool true) rfl) ?_
                refine WL_s (j := 6) rfl rfl rfl ?_
                refine WL_s (j := 6) rfl rfl rfl ?_
                refine WL_s (j := 6) rfl rfl rfl ?_
                refine WL_y (Y_pick_t (.bool true) rfl rfl) ?_
                refine WL_y (Y_move (.bool true) rfl) ?_
                refine WL_s (j := 11) rfl rfl rfl ?_
                refine WL_s (j := 11) rfl rfl rfl ?_
                refine WL_s (j := 11) rfl rfl rfl ?_
                refine WL_s (j := 11) rfl rfl rfl ?_
                refine WL_y (Y_pick_t (.bool true) rfl rfl) ?_
                refine WL_nil (nm_then ?_)
                exact ⟨M26, true, hF111, hS, hT27_2, hT27_6, hT27_7, rfl, hT27_33, hT27_34, hT27_35, rfl, hz⟩
              · replace hz := bif_ok_f hz hc112
                refine WL_gy rfl (bf hc112 rfl) (Y_move (.int .i64 x44) rfl) ?_
                refine WL_gy rfl (bf hc112 rfl) (Y_geq rfl rfl) ?_
                refine WL_y (Y_pick_f (.bool (decide (x44 ≥ 32))) (bf hc112 rfl) rfl) ?_
                refine WL_y (Y_move (.bool (decide (x44 ≥ 32))) rfl) ?_
                rcases Bool.eq_false_or_eq_true (decide (x44 ≥ 32)) with hc113 | hc113
                · replace hz := bif_ok_t hz hc113
                  refine WL_s (j := 6) rfl (bt hc113 rfl) rfl ?_
                  refine WL_s (j := 6) rfl (bt hc113 rfl) rfl ?_
                  refine WL_s (j := 6) rfl (bt hc113 rfl) rfl ?_
                  refine WL_y (Y_pick_t (.bool true) (bt hc113 rfl) rfl) ?_
                  refine WL_y (Y_move (.bool true) rfl) ?_
                  refine WL_s (j := 11) rfl rfl rfl ?_
                  refine WL_s (j := 11) rfl rfl rfl ?_
                  refine WL_s (j := 11) rfl rfl rfl ?_
                  refine WL_s (j := 11) rfl rfl rfl ?_
                  refine WL_y (Y_pick_t (.bool true) rfl rfl) ?_
                  refine WL_nil (nm_then ?_)
                  exact ⟨M26, true, hF111, hS, hT27_2, hT27_6, hT27_7, rfl, hT27_33, hT27_34, hT27_35, rfl, hz⟩
                · replace hz := bif_ok_f hz hc113
                  refine WL_gy rfl (bf hc113 rfl) (Y_move (.int .i64 x44) rfl) ?_
                  obtain ⟨u114, hx115, hz⟩ := bind_ok hz
                  obtain ⟨hx115a, hx115b⟩ := inR_some hx115
                  refine WL_gy rfl (bf hc113 rfl) (Y_ixA ia22 hT27_7 rfl hx115a hx115b) ?_
                  obtain ⟨x116, hx117, hz⟩ := bind_ok hz
                  refine WL_gy rfl (bf hc113 rfl) (Y_ld1 (.bool x116) ts4 rfl (hS.bvB 0 rfl) (vp (k := 1) rfl rfl (rep_root (k := 32) rfl hb28) hx117)) ?_
                  refine WL_y (Y_pick_f (.bool x116) (bf hc113 rfl) rfl) ?_
                  refine WL_y (Y_move (.bool x116) rfl) ?_
                  rcases Bool.eq_false_or_eq_true x116 with hc118 | hc118
                  · replace hz := bif_ok_t hz hc118
                    refine WL_s (j := 11) rfl (bt hc118 rfl) rfl ?_
                    refine WL_s (j := 11) rfl (bt hc118 rfl) rfl ?_
                    refine WL_s (j := 11) rfl (bt hc118 rfl) rfl ?_
                    refine WL_s (j := 11) rfl (bt hc118 rfl) rfl ?_
                    refine WL_y (Y_pick_t (.bool true) (bt hc118 rfl) rfl) ?_
                    refine WL_nil (nm_then ?_)
                    exact ⟨M26, true, hF111, hS, hT27_2, hT27_6, hT27_7, rfl, hT27_33, hT27_34, hT27_35, rfl, hz⟩
                  · replace hz := bif_ok_f hz hc118
                    refine WL_gy rfl (bf hc118 rfl) (Y_move (.int .i64 x44) rfl) ?_
                    obtain ⟨u119, hx120, hz⟩ := bind_ok hz
                    obtain ⟨hx120a, hx120b⟩ := inR_some hx120
                    refine WL_gy rfl (bf hc118 rfl) (Y_ixA ia22 hT27_6 rfl hx120a hx120b) ?_
                    obtain ⟨x121, hx122, hz⟩ := bind_ok hz
                    refine WL_gy rfl (bf hc118 rfl) (Y_ld1 (.bool x121) ts4 rfl (hS.bvB 1 rfl) (vp (k := 1) rfl rfl (rep_root (k := 32) rfl hb20) hx122)) ?_
                    refine WL_gy rfl (bf hc118 rfl) (Y_not rfl) ?_
                    refine WL_y (Y_pick_f (.bool (!x121)) (bf hc118 rfl) rfl) ?_
                    refine WL_nil (nm_then ?_)
                    exact ⟨M26, (!x121), hF111, hS, hT27_2, hT27_6, hT27_7, rfl, hT27_33, hT27_34, hT27_35, rfl, hz⟩
            · rintro T107 w105 ⟨M106, c108, hx109, hS, hT107_2, hT107_6, hT107_7, hT107_9, hT107_33, hT107_34, hT107_35, hT107_55, hz⟩
              replace hcx1 := Rep.mono hx109.1 hcx1
              replace f7 := repL.mono hx109.1 f7
              replace hb20 := Rep.mono hx109.1 hb20
              replace hb28 := Rep.mono hx109.1 hb28
              replace hE := Mm.ext.trans hE hx109
              replace hF33 := Mm.ext.trans hF33 hx109
              replace hF42 := Mm.ext.trans hF42 hx109
              replace hF104 := Mm.ext.trans hF104 hx109
              rw [graphAhead_j6] at hz
              refine W_cond hT107_55 (fun hc110 => ?_) (fun hc110 => ?_)
              · replace hz := bif_ok_t hz hc110
                refine W_seq ?_
                refine W_reg ?_
                refine WL_y (Y_assign (.bool false) rfl) ?_
                refine WL_nil (nm_then ?_)
                cases hz
                exact W_ret (rt_then (rt_blk (rt_then (rt_then (rt_blk (rt_then (R_t1 rfl rfl ⟨rfl, (St.dropB (St.dropB (St.dropB hS hb23) hb18) hb4).kept⟩)))))))
              · replace hz := bif_ok_f hz hc110
                refine W_skip (nm_then ?_)
                exact ⟨M106, hF104, hS, hT107_2, hT107_6, hT107_7, hT107_9, hT107_33, hT107_34, hT107_35, hz⟩
          · rintro T47 w45 ⟨M46, hx48, hS, hT47_2, hT47_6, hT47_7, hT47_9, hT47_33, hT47_34, hT47_35, hz⟩
            replace hcx1 := Rep.mono hx48.1 hcx1
            replace f7 := repL.mono hx48.1 f7
            replace hb20 := Rep.mono hx48.1 hb20
            replace hb28 := Rep.mono hx48.1 hb28
            replace hE := Mm.ext.trans hE hx48
            replace hF33 := Mm.ext.trans hF33 hx48
            replace hF42 := Mm.ext.trans hF42 hx48
            rw [graphAhead_j3] at hz
            refine W_seq ?_
            refine W_reg ?_
            have ha49 := (rep_root (k := 64) rfl hcx1)
            refine WL_y (Y_ldn ta26 hT47_2 (hS.bvB 2 rfl) (Rep.len ha49)) ?_
            refine WL_y (Y_move (.int .i64 x44) hT47_9) ?_
            obtain ⟨r52, hr51, hz⟩ := bind_ok hz
            refine WL_c (O_mem (vs := [.agg (sl cx1 (0) 64).toArray, .int .i64 x44]) (rv := (fun M' u => ∃ cs, u = .agg cs.toArray ∧ rep M' cs r52)) cb18 (args2 rfl rfl) hS (reach_ok hS.agree ha49 hr51) ?_)
            intro u51 M51 w50 hx51 hu51 hS
            obtain ⟨c51, hq51, f51⟩ := hu51
            subst hq51
            replace hcx1 := Rep.mono hx51.1 hcx1
            replace f7 := repL.mono hx51.1 f7
            replace hb20 := Rep.mono hx51.1 hb20
            replace hb28 := Rep.mono hx51.1 hb28
            replace ha49 := Rep.mono hx51.1 ha49
            replace hE := Mm.ext.trans hE hx51
            replace hF33 := Mm.ext.trans hF33 hx51
            replace hF42 := Mm.ext.trans hF42 hx51
            refine WL_c (O_alloc tz22 hS ?_)
            intro b54 w53 hb54 hS
            replace hS : St w noX M51 [.box b54 (Zr.zc (Vector Bool 32)) 22, .box b23 cs28 22, .box b18 cs20 22, .box b4 cx1 26] w53 := hS
            have zb54 : rep M51 (Zr.zc (Vector Bool 32)) (Zr.zd : Vector Bool 32) := Zr.zr
            have hw56 : (c51 : List Value).length = 32 := Rep.len f51
            have hl56 : ((Zr.zc (Vector Bool 32))).length = 32 := Rep.len zb54
            obtain ⟨d57, hd56, hz⟩ := bind_ok hz
            have hb56 : rep M51 (pt (Zr.zc (Vector Bool 32)) (0) c51) d57 := rep_eq (rep_whole (k := 32) (by rw [pt_length (by omega)]; exact hl56) (rep_leaf rfl f51 (by omega))) hd56
            generalize hg56 : (pt (Zr.zc (Vector Bool 32)) (0) c51) = cs56 at hb56
            refine WL_c (O_st (j := 0) (v := .agg c51.toArray) (ws := c51) hS rfl (by kernel_rfl) rfl rfl rfl hw56 (Rep.one f51) (by omega) ?_)
            rw [hg56]
            clear hg56
            intro w55 hS
            replace hS : St w noX M51 [.box b54 cs56 22, .box b23 cs28 22, .box b18 cs20 22, .box b4 cx1 26] w55 := hS
            refine WL_nil (nm_then ?_)
            refine W_seq ?_
            refine W_seq ?_
            refine W_reg ?_
            have ha58 := (rep_root (k := 32) rfl hb56)
            refine WL_y (Y_ldn ta22 rfl (hS.bvB 0 rfl) (Rep.len ha58)) ?_
            refine WL_y (Y_move (.int .i64 0) rfl) ?_
            refine WL_nil (nm_then ?_)
            refine W_block ?_
            refine W_loop (fun k64 T' w' => ∃ M60 y62, Mm.ext w.heap.size noX M51 M60 ∧ St w noX M60 [.box b54 cs56 22, .box b23 cs28 22, .box b18 cs20 22, .box b4 cx1 26] w' ∧ T' 2 = .pointer (some ⟨b4, 0, none⟩) ∧ T' 6 = .pointer (some ⟨b18, 0, none⟩) ∧ T' 7 = .pointer (some ⟨b23, 0, none⟩) ∧ T' 9 = .int .i64 x44 ∧ T' 33 = u7 ∧ T' 34 = .int .i64 (r8.length : Int) ∧ T' 35 = .int .i64 y30 ∧ T' 59 = .agg (sl cs56 (0) 32).toArray ∧ T' 60 = .int .i64 y62 ∧ graphAhead_l2 fu x1 d29 y30 rec31 x44 d57 k64 y62 = some r) fu ?_ ?_ ?_
            · exact ⟨M51, (0 : Int), (Mm.ext.refl _ _ _), hS, hT47_2, hT47_6, hT47_7, hT47_9, hT47_33, hT47_34, hT47_35, rfl, rfl, hz⟩
            · rintro T' w' ⟨_, _, _, _, _, _, _, _, _, _, _, _, _, hz⟩
              rw [graphAhead_l2] at hz
              cases hz
            · intro k64
              rintro T61 w59 ⟨M60, y62, hx66, hS, hT61_2, hT61_6, hT61_7, hT61_9, hT61_33, hT61_34, hT61_35, hT61_59, hT61_60, hz⟩
              replace hcx1 := Rep.mono hx66.1 hcx1
              replace f7 := repL.mono hx66.1 f7
              replace hb20 := Rep.mono hx66.1 hb20
              replace hb28 := Rep.mono hx66.1 hb28
              replace hb56 := Rep.mono hx66.1 hb56
              replace ha58 := Rep.mono hx66.1 ha58
              replace hE := Mm.ext.trans hE hx66
              replace hF33 := Mm.ext.trans hF33 hx66
              replace hF42 := Mm.ext.trans hF42 hx66
              have hF65 := hx66
              rw [graphAhead_l2] at hz
              obtain ⟨rec63, hrec63⟩ : ∃ f, f = graphAhead_l2 fu x1 d29 y30 rec31 x44 d57 k64 := ⟨_, rfl⟩
              rw [← hrec63] at hz
              refine W_seq ?_
              refine W_reg ?_
              refine WL_y (Y_lss hT61_60 rfl) ?_
              refine WL_nil (nm_then ?_)
              refine W_seq ?_
              refine W_cond rfl (fun hc67 => ?_) (fun hc67 => ?_)
              · replace hz := bif_ok_t hz hc67
                refine W_skip (nm_then ?_)
                refine W_seqJ (fun T' w' => ∃ M69, Mm.ext w.heap.size noX M60 M69 ∧ St w noX M69 [.box b54 cs56 22, .box b23 cs28 22, .box b18 cs20 22, .box b4 cx1 26] w' ∧ T' 2 = .pointer (some ⟨b4, 0, none⟩) ∧ T' 6 = .pointer (some ⟨b18, 0, none⟩) ∧ T' 7 = .pointer (some ⟨b23, 0, none⟩) ∧ T' 9 = .int .i64 x44 ∧ T' 33 = u7 ∧ T' 34 = .int .i64 (r8.length : Int) ∧ T' 35 = .int .i64 y30 ∧ T' 59 = .agg (sl cs56 (0) 32).toArray ∧ T' 60 = .int .i64 y62 ∧ graphAhead_j4 y62 rec63 = some r) ?_ ?_
                · have hF72 := Mm.ext.refl w.heap.size noX M60
                  refine W_block ?_
                  refine W_seq ?_
                  refine W_reg ?_
                  refine WL_y (Y_move (.int .i64 y62) hT61_60) ?_
                  obtain ⟨x73, hx74, hz⟩ := bind_ok hz
                  obtain ⟨hx74a, hx74b, hx74⟩ := repV_at ha58 hx74
                  refine WL_y (Y_ixV1 (.bool x73) iv22 hT61_59 hT61_60 hx74a hx74b hx74) ?_
                  refine WL_y (Y_assign (.int .i64 y62) rfl) ?_
                  refine WL_y (Y_assign (.bool x73) rfl) ?_
                  refine WL_nil (nm_then ?_)
                  refine W_seqJ (fun T' w' => ∃ M76 c78, Mm.ext w.heap.size noX M60 M76 ∧ St w noX M76 [.box b54 cs56 22, .box b23 cs28 22, .box b18 cs20 22, .box b4 cx1 26] w' ∧ T' 2 = .pointer (some ⟨b4, 0, none⟩) ∧ T' 6 = .pointer (some ⟨b18, 0, none⟩) ∧ T' 7 = .pointer (some ⟨b23, 0, none⟩) ∧ T' 9 = .int .i64 x44 ∧ T' 33 = u7 ∧ T' 34 = .int .i64 (r8.length : Int) ∧ T' 35 = .int .i64 y30 ∧ T' 59 = .agg (sl cs56 (0) 32).toArray ∧ T' 60 = .int .i64 y62 ∧ T' 78 = .bool c78 ∧ graphAhead_j5 y62 rec63 c78 = some r) ?_ ?_
                  · have hF81 := Mm.ext.refl w.heap.size noX M60
                    refine W_reg ?_
                    refine WL_y (Y_move (.bool x73) rfl) ?_
                    refine WL_y (Y_move (.bool x73) rfl) ?_
                    rcases Bool.eq_false_or_eq_true x73 with hc82 | hc82
                    · replace hz := bif_ok_t hz hc82
                      refine WL_gy rfl (bt hc82 rfl) (Y_move (.int .i64 y62) rfl) ?_
                      obtain ⟨u83, hx84, hz⟩ := bind_ok hz
                      obtain ⟨hx84a, hx84b⟩ := inR_some hx84
                      refine WL_gy rfl (bt hc82 rfl) (Y_ixA ia22 hT61_7 rfl hx84a hx84b) ?_
                      obtain ⟨x85, hx86, hz⟩ := bind_ok hz
                      refine WL_gy rfl (bt hc82 rfl) (Y_ld1 (.bool x85) ts4 rfl (hS.bvB 1 rfl) (vp (k := 1) rfl rfl (rep_root (k := 32) rfl hb28) hx86)) ?_
                      refine WL_gy rfl (bt hc82 rfl) (Y_not rfl) ?_
                      refine WL_y (Y_pick_t (.bool (!x85)) (bt hc82 rfl) rfl) ?_
                      refine WL_y (Y_move (.bool (!x85)) rfl) ?_
                      rcases Bool.eq_false_or_eq_true (!x85) with hc87 | hc87
                      · replace hz := bif_ok_t hz hc87
                        have ha88 := (rep_root (k := 64) rfl hcx1)
                        refine WL_gy rfl (bt hc87 rfl) (Y_ldn ta26 hT61_2 (hS.bvB 3 rfl) (Rep.len ha88)) ?_
                        refine WL_gy rfl (bt hc87 rfl) (Y_move (.int .i64 y62) rfl) ?_
                        obtain ⟨r91, hr90, hz⟩ := bind_ok hz
                        refine WL_g rfl (bt hc87 rfl) (O_mem (vs := [.agg (sl cx1 (0) 64).toArray, .int .i64 y62]) (rv := (fun M' u => ∃ cs, u = .agg cs.toArray ∧ rep M' cs r91)) cb18 (args2 rfl rfl) hS (reach_ok hS.agree ha88 hr90) ?_)
                        intro u90 M90 w89 hx90 hu90 hS
                        obtain ⟨c90, hq90, f90⟩ := hu90
                        subst hq90
                        replace hcx1 := Rep.mono hx90.1 hcx1
                        replace f7 := repL.mono hx90.1 f7
                        replace hb20 := Rep.mono hx90.1 hb20
                        replace hb28 := Rep.mono hx90.1 hb28
                        replace hb56 := Rep.mono hx90.1 hb56
                        replace ha58 := Rep.mono hx90.1 ha58
                        replace ha88 := Rep.mono hx90.1 ha88
                        replace hE := Mm.ext.trans hE hx90
                        replace hF33 := Mm.ext.trans hF33 hx90
                        replace hF42 := Mm.ext.trans hF42 hx90
                        replace hF65 := Mm.ext.trans hF65 hx90
                        replace hF72 := Mm.ext.trans hF72 hx90
                        replace hF81 := Mm.ext.trans hF81 hx90
                        refine WL_gy rfl (bt hc87 rfl) (Y_move (.int .i64 x44) hT61_9) ?_
                        obtain ⟨x92, hx93, hz⟩ := bind_ok hz
                        obtain ⟨hx93a, hx93b, hx93⟩ := repV_at f90 hx93
                        refine WL_gy rfl (bt hc87 rfl) (Y_ixV1 (.bool x92) iv22 rfl rfl hx93a hx93b hx93) ?_
                        refine WL_gy rfl (bt hc87 rfl) (Y_not rfl) ?_
                        refine WL_y (Y_pick_t (.bool (!x92)) (bt hc87 rfl) rfl) ?_
                        refine WL_nil (nm_then ?_)
                        exact ⟨M90, (!x92), hF81, hS, hT61_2, hT61_6, hT61_7, hT61_9, hT61_33, hT61_34, hT61_35, hT61_59, hT61_60, rfl, hz⟩
                      · replace hz := bif_ok_f hz hc87
                        refine WL_s (j := 7) rfl (bf hc87 rfl) rfl ?_
                        refine WL_s (j := 7) rfl (bf hc87 rfl) rfl ?_
                        refine WL_s (j := 7) rfl (bf hc87 rfl) rfl ?_
                        refine WL_s (j := 7) rfl (bf hc87 rfl) rfl ?_
                        refine WL_s (j := 7) rfl (bf hc87 rfl) rfl ?_
                        refine WL_s (j := 7) rfl (bf hc87 rfl) rfl ?_
                        refine WL_y (Y_pick_f (.bool false) (bf hc87 rfl) rfl) ?_
                        refine WL_nil (nm_then ?_)
                        exact ⟨M60, false, hF81, hS, hT61_2, hT61_6, hT61_7, hT61_9, hT61_33, hT61_34, hT61_35, hT61_59, hT61_60, rfl, hz⟩
                    · replace hz := bif_ok_f hz hc82
                      refine WL_s (j := 1) rfl (bf hc82 rfl) rfl ?_
                      refine WL_s (j := 1) rfl (bf hc82 rfl) rfl ?_
                      refine WL_s (j := 1) rfl (bf hc82 rfl) rfl ?_
                      refine WL_s (j := 1) rfl (bf hc82 rfl) rfl ?_
                      refine WL_y (Y_pick_f (.bool false) (bf hc82 rfl) rfl) ?_
                      refine WL_y (Y_move (.bool false) rfl) ?_
                      refine WL_s (j := 7) rfl rfl rfl ?_
                      refine WL_s (j := 7) rfl rfl rfl ?_
                      refine WL_s (j := 7) rfl rfl rfl ?_
                      refine WL_s (j := 7) rfl rfl rfl ?_
                      refine WL_s (j := 7) rfl rfl rfl ?_
                      refine WL_s (j := 7) rfl rfl rfl ?_
                      refine WL_y (Y_pick_f (.bool false) rfl rfl) ?_
                      refine WL_nil (nm_then ?_)
                      exact ⟨M60, false, hF81, hS, hT61_2, hT61_6, hT61_7, hT61_9, hT61_33, hT61_34, hT61_35, hT61_59, hT61_60, rfl, hz⟩
                  · rintro T77 w75 ⟨M76, c78, hx79, hS, hT77_2, hT77_6, hT77_7, hT77_9, hT77_33, hT77_34, hT77_35, hT77_59, hT77_60, hT77_78, hz⟩
                    replace hcx1 := Rep.mono hx79.1 hcx1
                    replace f7 := repL.mono hx79.1 f7
                    replace hb20 := Rep.mono hx79.1 hb20
                    replace hb28 := Rep.mono hx79.1 hb28
                    replace hb56 := Rep.mono hx79.1 hb56
                    replace ha58 := Rep.mono hx79.1 ha58
                    replace hE := Mm.ext.trans hE hx79
                    replace hF33 := Mm.ext.trans hF33 hx79
                    replace hF42 := Mm.ext.trans hF42 hx79
                    replace hF65 := Mm.ext.trans hF65 hx79
                    replace hF72 := Mm.ext.trans hF72 hx79
                    rw [graphAhead_j5] at hz
                    refine W_cond hT77_78 (fun hc80 => ?_) (fun hc80 => ?_)
                    · replace hz := bif_ok_t hz hc80
                      refine W_seq ?_
                      refine W_reg ?_
                      refine WL_y (Y_assign (.bool false) rfl) ?_
                      refine WL_nil (nm_then ?_)
                      cases hz
                      exact W_ret (rt_blk (rt_then (rt_then (rt_blk (rt_then (rt_blk (rt_then (rt_then (rt_blk (rt_then (R_t1 rfl rfl ⟨rfl, (St.dropB (St.dropB (St.dropB (St.dropB hS hb54) hb23) hb18) hb4).kept⟩)))))))))))
                    · replace hz := bif_ok_f hz hc80
                      refine W_skip (nm_blk ?_)
                      refine (nm_then ?_)
                      exact ⟨M76, hF72, hS, hT77_2, hT77_6, hT77_7, hT77_9, hT77_33, hT77_34, hT77_35, hT77_59, hT77_60, hz⟩
                · rintro T70 w68 ⟨M69, hx71, hS, hT70_2, hT70_6, hT70_7, hT70_9, hT70_33, hT70_34, hT70_35, hT70_59, hT70_60, hz⟩
                  replace hcx1 := Rep.mono hx71.1 hcx1
                  replace f7 := repL.mono hx71.1 f7
                  replace hb20 := Rep.mono hx71.1 hb20
                  replace hb28 := Rep.mono hx71.1 hb28
                  replace hb56 := Rep.mono hx71.1 hb56
                  replace ha58 := Rep.mono hx71.1 ha58
                  replace hE := Mm.ext.trans hE hx71
                  replace hF33 := Mm.ext.trans hF33 hx71
                  replace hF42 := Mm.ext.trans hF42 hx71
                  replace hF65 := Mm.ext.trans hF65 hx71
                  rw [graphAhead_j4] at hz
                  refine W_reg ?_
                  refine WL_y (Y_add hT70_60 rfl) ?_
                  refine WL_y (Y_move (.int .i64 (IntKind.wrap .i64 (y62 + 1))) rfl) ?_
                  refine WL_nil (nm_then ?_)
                  exact ⟨M69, (IntKind.wrap .i64 (y62 + 1)), hF65, hS, hT70_2, hT70_6, hT70_7, hT70_9, hT70_33, hT70_34, hT70_35, hT70_59, rfl, (by rw [← hrec63]; exact hz)⟩
              · replace hz := bif_ok_f hz hc67
                refine W_exit ?_
                refine ex_then ?_
                refine ex_then ?_
                refine ex_hit ?_
                refine (nm_then ?_)
                refine W_reg ?_
                refine WL_y (Y_move (.int .i64 x44) hT61_9) ?_
                obtain ⟨u94, hx95, hz⟩ := bind_ok hz
                obtain ⟨hx95a, hx95b⟩ := inR_some hx95
                refine WL_y (Y_ixA ia22 hT61_7 rfl hx95a hx95b) ?_
                obtain ⟨x98, hx99, hz⟩ := bind_ok hz
                have hw97 : ([.bool true] : List Value).length = 1 := Rep.len (show rep M60 [Value.bool true] (true : Bool) from rfl)
                have hl97 : (cs28).length = 32 := Rep.len hb28
                have hq100 := (idxV_some hx99)
                obtain ⟨a101, hx102, hz⟩ := bind_ok hz
                obtain ⟨d103, hd97, hz⟩ := bind_ok hz
                have hb97 : rep M60 (pt cs28 (0 + Int.toNat x44 * 1) [.bool true]) d103 := rep_eq (rep_whole (k := 32) (by rw [pt_length (by omega)]; exact hl97) (vs (k := 1) rfl rfl (rep_root (k := 32) rfl hb28) (rep_leaf rfl (show rep M60 [Value.bool true] (true : Bool) from rfl) (by omega)) hx102 (by omega) (by omega) (by omega))) hd97
                generalize hg97 : (pt cs28 (0 + Int.toNat x44 * 1) [.bool true]) = cs97 at hb97
                refine WL_c (O_st (j := 1) (v := .bool true) (ws := [.bool true]) hS rfl (by kernel_rfl) rfl rfl rfl hw97 (Rep.one (show rep M60 [Value.bool true] (true : Bool) from rfl)) (by omega) ?_)
                rw [hg97]
                clear hg97
                intro w96 hS
                replace hS : St w noX M60 [.box b54 cs56 22, .box b23 cs97 22, .box b18 cs20 22, .box b4 cx1 26] w96 := hS
                refine WL_nil (nm_blk ?_)
                refine (nm_then ?_)
                exact ⟨M60, cs97, d103, hF42, (St.dropB hS hb54), hb97, hT61_2, hT61_6, hT61_7, hT61_33, hT61_34, hT61_35, hz⟩
        · rintro T38 w36 ⟨M37, cs39, d40, hx41, hS, hb39, hT38_2, hT38_6, hT38_7, hT38_33, hT38_34, hT38_35, hz⟩
          replace hcx1 := Rep.mono hx41.1 hcx1
          replace f7 := repL.mono hx41.1 f7
          replace hb20 := Rep.mono hx41.1 hb20
          replace hE := Mm.ext.trans hE hx41
          replace hF33 := Mm.ext.trans hF33 hx41
          rw [graphAhead_j2] at hz
          refine W_reg ?_
          refine WL_y (Y_add hT38_35 rfl) ?_
          refine WL_y (Y_move (.int .i64 (IntKind.wrap .i64 (y30 + 1))) rfl) ?_
          refine WL_nil (nm_then ?_)
          exact ⟨M37, cs39, d40, (IntKind.wrap .i64 (y30 + 1)), hF33, hS, hb39, hT38_2, hT38_6, hT38_7, hT38_33, hT38_34, rfl, (by rw [← hrec31]; exact hz)⟩
      · replace hz := bif_ok_f hz hc35
        refine W_exit ?_
        refine ex_then ?_
        refine ex_then ?_
        refine ex_hit ?_
        refine (nm_then ?_)
        refine W_seq ?_
        refine W_reg ?_
        have ha123 := (rep_root (k := 32) rfl hb28)
        refine WL_y (Y_ldn ta22 hT27_7 (hS.bvB 0 rfl) (Rep.len ha123)) ?_
        have ha124 := (rep_root (k := 32) rfl hb20)
        refine WL_y (Y_ldn ta22 hT27_6 (hS.bvB 1 rfl) (Rep.len ha124)) ?_
        refine WL_y (Y_eqA rfl rfl eg22 ha123 ha124) ?_
        refine WL_y (Y_assign (.bool (decide (d29 = d21))) rfl) ?_
        refine WL_nil (nm_then ?_)
        cases hz
        exact W_ret (R_t1 rfl rfl ⟨rfl, (St.dropB (St.dropB (St.dropB hS hb23) hb18) hb4).kept⟩)

def graphParts_j2 (y30 : Int) (rec31 : (List Int) → Int → Option Bool) (l39 : List Int) : Option Bool :=
    rec31 l39 (IntKind.wrap .i64 (y30 + 1))

def graphParts_j3 (l28 : List Int) (y30 : Int) (rec31 : (List Int) → Int → Option Bool) (x44 : Int) (c48 : Bool) : Option Bool :=
    (bif c48 then
    (app l28 ([x44] : List Int)).bind fun l55 =>
    graphParts_j2 y30 rec31 l55
    else
    graphParts_j2 y30 rec31 l28)

def graphParts_l1 (fu : Nat) (x1 : GGraph) (x3 : Int) (r9 : (List Int)) (d22 : Vector Bool 32) : Nat → (List Int) → Int → Option Bool
  | 0, _, _ => none
  | n + 1, l28, y30 =>
    (bif decide (y30 < (r9.length : Int)) then
    (idx r9 y30).bind fun x44 =>
    (bif decide (x44 ≥ 0) then
    (bif decide (x44 < 32) then
    (inR x44 32).bind fun _ =>
    (idxV d22 x44).bind fun x61 =>
    graphParts_j3 l28 y30 (graphParts_l1 fu x1 x3 r9 d22 n) x44 x61
    else
    graphParts_j3 l28 y30 (graphParts_l1 fu x1 x3 r9 d22 n) x44 false)
    else
    graphParts_j3 l28 y30 (graphParts_l1 fu x1 x3 r9 d22 n) x44 false)
    else
    (gorderD fu x1 x3).bind fun r66 =>
    (keepSameNumbersD fu l28 r66).bind fun r69 =>
    some r69)

def graphParts_j1 (fu : Nat) (x1 : GGraph) (x3 : Int) (r9 : (List Int)) : Option Bool :=
    (reachD fu x1 x3).bind fun r17 =>
    (some r17).bind fun d22 =>
    graphParts_l1 fu x1 x3 r9 d22 fu ([] : List Int) 0

def graphParts_j4 (fu : Nat) (x1 : GGraph) (x3 : Int) (r9 : (List Int)) (c74 : Bool) : Option Bool :=
    (bif c74 then
    (keepOrdersD fu).bind fun r79 =>
    some r79
    else
    graphParts_j1 fu x1 x3 r9)

def graphPartsD (fu : Nat) (x1 : GGraph) (x2 : Int) (x3 : Int) : Option Bool :=
    (gorderD fu x1 x2).bind fun r9 =>
    (readyD fu x1 x2).bind fun r84 =>
    (bif !r84 then
    graphParts_j4 fu x1 x3 r9 true
    else
    (keepHasD fu r9 x3).bind fun r88 =>
    (bif !r88 then
    graphParts_j4 fu x1 x3 r9 true
    else
    (keepOrdersD fu).bind fun r92 =>
    graphParts_j4 fu x1 x3 r9 (!r92)))

set_option maxRecDepth 100000 in
set_option maxHeartbeats 4000000 in
theorem graphParts_ok {M : Mm} {w : World} {cx1 : List Value} {x1 : GGraph} {x2 : Int} {x3 : Int} {fu : Nat} {r : Bool} (hA : Agree M w) (hcx1 : rep M cx1 x1) (hz : graphPartsD fu x1 x2 x3 = some r) :
    Calls Try.prog 4 #[.agg cx1.toArray, .int .i64 x2, .int .i64 x3] w (GivesV w (.bool r)) := by
  refine calls_W Try.func4 rfl 60 rfl rfl (by kernel_rfl) fun T hT => ?_
  have hT_0 : T 0 = .agg cx1.toArray := hT 0
  have hT_1 : T 1 = .int .i64 x2 := hT 1
  have hT_2 : T 2 = .int .i64 x3 := hT 2
  clear hT
  have hE := Mm.ext.refl w.heap.size noX M
  have hS : St w noX M [] w := St.start hA
  rw [graphPartsD] at hz
  refine W_seq ?_
  refine W_reg ?_
  refine WL_c (O_box (v := .agg cx1.toArray) (cs := cx1) hT_0 rfl hS ?_)
  intro b5 w4 hb5 hS
  replace hS : St w noX M [.box b5 cx1 26] w4 := hS
  refine WL_y (Y_assign (.bool false) rfl) ?_
  refine WL_nil (nm_then ?_)
  refine W_seq ?_
  refine W_reg ?_
  have ha6 := (rep_root (k := 64) rfl hcx1)
  refine WL_y (Y_ldn ta26 rfl (hS.bvB 0 rfl) (Rep.len ha6)) ?_
  refine WL_y (Y_move (.int .i64 x2) hT_1) ?_
  obtain ⟨r9, hr8, hz⟩ := bind_ok hz
  refine WL_c (O_mem (vs := [.agg (sl cx1 (0) 64).toArray, .int .i64 x2]) (rv := (fun M' u => repL M' u r9)) cb15 (args2 rfl rfl) hS (gorder_ok hS.agree ha6 hr8) ?_)
  intro u8 M8 w7 hx8 hu8 hS
  have f8 : repL M8 u8 r9 := hu8
  replace hcx1 := Rep.mono hx8.1 hcx1
  replace ha6 := Rep.mono hx8.1 ha6
  replace hE := Mm.ext.trans hE hx8
  refine WL_y (Y_assign (u8) rfl) ?_
  refine WL_nil (nm_then ?_)
  refine W_seqJ (fun T' w' => ∃ M11, Mm.ext w.heap.size noX M8 M11 ∧ St w noX M11 [.box b5 cx1 26] w' ∧ T' 2 = .int .i64 x3 ∧ T' 3 = .pointer (some ⟨b5, 0, none⟩) ∧ T' 7 = u8 ∧ graphParts_j1 fu x1 x3 r9 = some r) ?_ ?_
  · have hF70 := Mm.ext.refl w.heap.size noX M8
    refine W_seqJ (fun T' w' => ∃ M72 c74, Mm.ext w.heap.size noX M8 M72 ∧ St w noX M72 [.box b5 cx1 26] w' ∧ T' 2 = .int .i64 x3 ∧ T' 3 = .pointer (some ⟨b5, 0, none⟩) ∧ T' 7 = u8 ∧ T' 28 = .bool c74 ∧ graphParts_j4 fu x1 x3 r9 c74 = some r) ?_ ?_
    · have hF80 := Mm.ext.refl w.heap.size noX M8
      refine W_reg ?_
      have ha81 := (rep_root (k := 64) rfl hcx1)
      refine WL_y (Y_ldn ta26 rfl (hS.bvB 0 rfl) (Rep.len ha81)) ?_
      refine WL_y (Y_move (.int .i64 x2) hT_1) ?_
      obtain ⟨r84, hr83, hz⟩ := bind_ok hz
      refine WL_c (O_val (vs := [.agg (sl cx1 (0) 64).toArray, .int .i64 x2]) (v := .bool r84) cb16 (args2 rfl rfl) hS (ready_ok hS.agree ha81 hr83) ?_)
      intro w82 hS
      refine WL_y (Y_not rfl) ?_
      refine WL_y (Y_move (.bool (!r84)) rfl) ?_
      rcases Bool.eq_false_or_eq_true (!r84) with hc85 | hc85
      · replace hz := bif_ok_t hz hc85
        refine WL_s (j := 4) rfl (bt hc85 rfl) rfl ?_
        refine WL_s (j := 4) rfl (bt hc85 rfl) rfl ?_
        refine WL_s (j := 4) rfl (bt hc85 rfl) rfl ?_
        refine WL_s (j := 4) rfl (bt hc85 rfl) rfl ?_
        refine WL_y (Y_pick_t (.bool true) (bt hc85 rfl) rfl) ?_
        refine WL_y (Y_move (.bool true) rfl) ?_
        refine WL_s (j := 10) rfl rfl rfl ?_
        refine WL_s (j := 10) rfl rfl rfl ?_
        refine WL_y (Y_pick_t (.bool true) rfl rfl) ?_
        refine WL_nil (nm_then ?_)
        exact ⟨M8, true, hF80, hS, hT_2, rfl, rfl, rfl, hz⟩
      · replace hz := bif_ok_f hz hc85
        refine WL_gy rfl (bf hc85 rfl) (Y_move (u8) rfl) ?_
        refine WL_gy rfl (bf hc85 rfl) (Y_move (.int .i64 x3) hT_2) ?_
        obtain ⟨r88, hr87, hz⟩ := bind_ok hz
        refine WL_g rfl (bf hc85 rfl) (O_val (vs := [u8, .int .i64 x3]) (v := .bool r88) cb19 (args2 rfl rfl) hS (keepHas_ok hS.agree f8 hr87) ?_)
        intro w86 hS
        refine WL_gy rfl (bf hc85 rfl) (Y_not rfl) ?_
        refine WL_y (Y_pick_f (.bool (!r88)) (bf hc85 rfl) rfl) ?_
        refine WL_y (Y_move (.bool (!r88)) rfl) ?_
        rcases Bool.eq_false_or_eq_true (!r88) with hc89 | hc89
        · replace hz := bif_ok_t hz hc89
          refine WL_s (j := 10) rfl (bt hc89 rfl) rfl ?_
          refine WL_s (j := 10) rfl (bt hc89 rfl) rfl ?_
          refine WL_y (Y_pick_t (.bool true) (bt hc89 rfl) rfl) ?_
          refine WL_nil (nm_then ?_)
          exact ⟨M8, true, hF80, hS, hT_2, rfl, rfl, rfl, hz⟩
        · replace hz := bif_ok_f hz hc89
          obtain ⟨r92, hr91, hz⟩ := bind_ok hz
          refine WL_g rfl (bf hc89 rfl) (O_val (vs := []) (v := .bool r92) cb17 args0 hS (keepOrders_ok hS.agree hr91) ?_)
          intro w90 hS
          refine WL_gy rfl (bf hc89 rfl) (Y_not rfl) ?_
          refine WL_y (Y_pick_f (.bool (!r92)) (bf hc89 rfl) rfl) ?_
          refine WL_nil (nm_then ?_)
          exact ⟨M8, (!r92), hF80, hS, hT_2, rfl, rfl, rfl, hz⟩
    · rintro T73 w71 ⟨M72, c74, hx75, hS, hT73_2, hT73_3, hT73_7, hT73_28, hz⟩
      replace hcx1 := Rep.mono hx75.1 hcx1
      replace f8 := repL.mono hx75.1 f8
      replace hE := Mm.ext.trans hE hx75
      replace hF70 := Mm.ext.trans hF70 hx75
      rw [graphParts_j4] at hz
      refine W_cond hT73_28 (fun hc76 => ?_) (fun hc76 => ?_)
      · replace hz := bif_ok_t hz hc76
        refine W_seq ?_
        refine W_reg ?_
        obtain ⟨r79, hr78, hz⟩ := bind_ok hz
        refine WL_c (O_val (vs := []) (v := .bool r79) cb17 args0 hS (keepOrders_ok hS.agree hr78) ?_)
        intro w77 hS
        refine WL_y (Y_assign (.bool r79) rfl) ?_
        refine WL_nil (nm_then ?_)
        cases hz
        exact W_ret (rt_then (R_t1 rfl rfl ⟨rfl, (St.dropB hS hb5).kept⟩))
      · replace hz := bif_ok_f hz hc76
        refine W_skip (nm_then ?_)
        exact ⟨M72, hF70, hS, hT73_2, hT73_3, hT73_7, hz⟩
  · rintro T12 w10 ⟨M11, hx13, hS, hT12_2, hT12_3, hT12_7, hz⟩
    replace hcx1 := Rep.mono hx13.1 hcx1
    replace f8 := repL.mono hx13.1 f8
    replace hE := Mm.ext.trans hE hx13
    rw [graphParts_j1] at hz
    refine W_seq ?_
    refine W_reg ?_
    have ha14 := (rep_root (k := 64) rfl hcx1)
    refine WL_y (Y_ldn ta26 hT12_3 (hS.bvB 0 rfl) (Rep.len ha14)) ?_
    refine WL_y (Y_move (.int .i64 x3) hT12_2) ?_
    obtain ⟨r17, hr16, hz⟩ := bind_ok hz
    refine WL_c (O_mem (vs := [.agg (sl cx1 (0) 64).toArray, .int .i64 x3]) (rv := (fun M' u => ∃ cs, u = .agg cs.toArray ∧ rep M' cs r17)) cb18 (args2 rfl rfl) hS (reach_ok hS.agree ha14 hr16) ?_)
    intro u16 M16 w15 hx16 hu16 hS
    obtain ⟨c16, hq16, f16⟩ := hu16
    subst hq16
    replace hcx1 := Rep.mono hx16.1 hcx1
    replace f8 := repL.mono hx16.1 f8
    replace ha14 := Rep.mono hx16.1 ha14
    replace hE := Mm.ext.trans hE hx16
    refine WL_c (O_alloc tz22 hS ?_)
    intro b19 w18 hb19 hS
    replace hS : St w noX M16 [.box b19 (Zr.zc (Vector Bool 32)) 22, .box b5 cx1 26] w18 := hS
    have zb19 : rep M16 (Zr.zc (Vector Bool 32)) (Zr.zd : Vector Bool 32) := Zr.zr
    have hw21 : (c16 : List Value).length = 32 := Rep.len f16
    have hl21 : ((Zr.zc (Vector Bool 32))).length = 32 := Rep.len zb19
    obtain ⟨d22, hd21, hz⟩ := bind_ok hz
    have hb21 : rep M16 (pt (Zr.zc (Vector Bool 32)) (0) c16) d22 := rep_eq (rep_whole (k := 32) (by rw [pt_length (by omega)]; exact hl21) (rep_leaf rfl f16 (by omega))) hd21
    generalize hg21 : (pt (Zr.zc (Vector Bool 32)) (0) c16) = cs21 at hb21
    refine WL_c (O_st (j := 0) (v := .agg c16.toArray) (ws := c16) hS rfl (by kernel_rfl) rfl rfl rfl hw21 (Rep.one f16) (by omega) ?_)
    rw [hg21]
    clear hg21
    intro w20 hS
    replace hS : St w noX M16 [.box b19 cs21 22, .box b5 cx1 26] w20 := hS
    refine WL_nil (nm_then ?_)
    refine W_seq ?_
    refine W_reg ?_
    refine WL_y (Y_assign ((.slice none 0 0)) rfl) ?_
    refine WL_nil (nm_then ?_)
    refine W_seq ?_
    refine W_seq ?_
    refine W_reg ?_
    refine WL_y (Y_move (u8) hT12_7) ?_
    obtain ⟨a23, c23, hv23, _⟩ := repL_shape f8
    refine WL_y (Y_lenL Try.underlying23 (tr2 hv23 rfl)) ?_
    refine WL_y (Y_move (.int .i64 0) rfl) ?_
    refine WL_nil (nm_then ?_)
    refine W_block ?_
    replace hS := hS.nilRow 3 1
    replace hS : St w noX M16 [.row (.slice none 0 0) 3 1, .box b19 cs21 22, .box b5 cx1 26] w20 := hS
    refine W_loop (fun k32 T' w' => ∃ M26 v29 l28 y30, Mm.ext w.heap.size noX M16 M26 ∧ St w noX M26 [.row v29 3 1, .box b19 cs21 22, .box b5 cx1 26] w' ∧ repL M26 v29 l28 ∧ T' 2 = .int .i64 x3 ∧ T' 3 = .pointer (some ⟨b5, 0, none⟩) ∧ T' 8 = .pointer (some ⟨b19, 0, none⟩) ∧ T' 9 = v29 ∧ T' 33 = u8 ∧ T' 34 = .int .i64 (r9.length : Int) ∧ T' 35 = .int .i64 y30 ∧ graphParts_l1 fu x1 x3 r9 d22 k32 l28 y30 = some r) fu ?_ ?_ ?_
    · exact ⟨M16, (.slice none 0 0), ([] : List Int), (0 : Int), (Mm.ext.refl _ _ _), hS, (repL_nil _), hT12_2, hT12_3, rfl, rfl, rfl, rfl, rfl, hz⟩
    · rintro T' w' ⟨_, _, _, _, _, _, _, _, _, _, _, _, _, _, hz⟩
      rw [graphParts_l1] at hz
      cases hz
    · intro k32
      rintro T27 w25 ⟨M26, v29, l28, y30, hx34, hS, hv29, hT27_2, hT27_3, hT27_8, hT27_9, hT27_33, hT27_34, hT27_35, hz⟩
      replace hcx1 := Rep.mono hx34.1 hcx1
      replace f8 := repL.mono hx34.1 f8
      replace hb21 := Rep.mono hx34.1 hb21
      replace hE := Mm.ext.trans hE hx34
      have hF33 := hx34
      rw [graphParts_l1] at hz
      obtain ⟨rec31, hrec31⟩ : ∃ f, f = graphParts_l1 fu x1 x3 r9 d22 k32 := ⟨_, rfl⟩
      rw [← hrec31] at hz
      refine W_seq ?_
      refine W_reg ?_
      refine WL_y (Y_lss hT27_35 hT27_34) ?_
      refine WL_nil (nm_then ?_)
      refine W_seq ?_
      refine W_cond rfl (fun hc35 => ?_) (fun hc35 => ?_)
      · replace hz := bif_ok_t hz hc35
        refine W_skip (nm_then ?_)
        refine W_seqJ (fun T' w' => ∃ M37 v40 l39, Mm.ext w.heap.size noX M26 M37 ∧ St w noX M37 [.row v40 3 1, .box b19 cs21 22, .box b5 cx1 26] w' ∧ repL M37 v40 l39 ∧ T' 2 = .int .i64 x3 ∧ T' 3 = .pointer (some ⟨b5, 0, none⟩) ∧ T' 8 = .pointer (some ⟨b19, 0, none⟩) ∧ T' 9 = v40 ∧ T' 33 = u8 ∧ T' 34 = .int .i64 (r9.length : Int) ∧ T' 35 = .int .i64 y30 ∧ graphParts_j2 y30 rec31 l39 = some r) ?_ ?_
        · have hF42 := Mm.ext.refl w.heap.size noX M26
          refine W_block ?_
          refine W_seq ?_
          refine W_reg ?_
          obtain ⟨x44, hx43, hz⟩ := bind_ok hz
          obtain ⟨b43, o43, c43, p43, hv43, hi43, hj43, hM43, hr43⟩ := repL_at f8 hx43
          replace hr43 : rep _ (sl p43 (o43 + Int.toNat y30 * 1) 1) x44 := hr43
          refine WL_y (Y_ixL il23 hT27_33 hv43 hT27_35 hi43 hj43) ?_
          refine WL_y (Y_ld1 (.int .i64 x44) ts3 rfl (hS.bvM hM43) hr43) ?_
          refine WL_y (Y_assign (.int .i64 x44) rfl) ?_
          refine WL_nil (nm_then ?_)
          refine W_seqJ (fun T' w' => ∃ M46 c48, Mm.ext w.heap.size noX M26 M46 ∧ St w noX M46 [.row v29 3 1, .box b19 cs21 22, .box b5 cx1 26] w' ∧ T' 2 = .int .i64 x3 ∧ T' 3 = .pointer (some ⟨b5, 0, none⟩) ∧ T' 8 = .pointer (some ⟨b19, 0, none⟩) ∧ T' 9 = v29 ∧ T' 11 = .int .i64 x44 ∧ T' 33 = u8 ∧ T' 34 = .int .i64 (r9.length : Int) ∧ T' 35 = .int .i64 y30 ∧ T' 49 = .bool c48 ∧ graphParts_j3 l28 y30 rec31 x44 c48 = some r) ?_ ?_
          · have hF56 := Mm.ext.refl w.heap.size noX M26
            refine W_reg ?_
            refine WL_y (Y_move (.int .i64 x44) rfl) ?_
            refine WL_y (Y_geq rfl rfl) ?_
            refine WL_y (Y_move (.bool (decide (x44 ≥ 0))) rfl) ?_
            rcases Bool.eq_false_or_eq_true (decide (x44 ≥ 0)) with hc57 | hc57
            · replace hz := bif_ok_t hz hc57
              refine WL_gy rfl (bt hc57 rfl) (Y_move (.int .i64 x44) rfl) ?_
              refine WL_gy rfl (bt hc57 rfl) (Y_lss rfl rfl) ?_
              refine WL_y (Y_pick_t (.bool (decide (x44 < 32))) (bt hc57 rfl) rfl) ?_
              refine WL_y (Y_move (.bool (decide (x44 < 32))) rfl) ?_
              rcases Bool.eq_false_or_eq_true (decide (x44 < 32)) with hc58 | hc58
              · replace hz := bif_ok_t hz hc58
                refine WL_gy rfl (bt hc58 rfl) (Y_move (.int .i64 x44) rfl) ?_
                obtain ⟨u59, hx60, hz⟩ := bind_ok hz
                obtain ⟨hx60a, hx60b⟩ := inR_some hx60
                refine WL_gy rfl (bt hc58 rfl) (Y_ixA ia22 hT27_8 rfl hx60a hx60b) ?_
                obtain ⟨x61, hx62, hz⟩ := bind_ok hz
                refine WL_gy rfl (bt hc58 rfl) (Y_ld1 (.bool x61) ts4 rfl (hS.bvB 1 rfl) (vp (k := 1) rfl rfl (rep_root (k := 32) rfl hb21) hx62)) ?_
                refine WL_y (Y_pick_t (.bool x61) (bt hc58 rfl) rfl) ?_
                refine WL_nil (nm_then ?_)
                exact ⟨M26, x61, hF56, hS, hT27_2, hT27_3, hT27_8, hT27_9, rfl, hT27_33, hT27_34, hT27_35, rfl, hz⟩
              · replace hz := bif_ok_f hz hc58
                refine WL_s (j := 6) rfl (bf hc58 rfl) rfl ?_
                refine WL_s (j := 6) rfl (bf hc58 rfl) rfl ?_
                refine WL_s (j := 6) rfl (bf hc58 rfl) rfl ?_
                refine WL_y (Y_pick_f (.bool false) (bf hc58 rfl) rfl) ?_
                refine WL_nil (nm_then ?_)
                exact ⟨M26, false, hF56, hS, hT27_2, hT27_3, hT27_8, hT27_9, rfl, hT27_33, hT27_34, hT27_35, rfl, hz⟩
            · replace hz := bif_ok_f hz hc57
              refine WL_s (j := 2) rfl (bf hc57 rfl) rfl ?_
              refine WL_s (j := 2) rfl (bf hc57 rfl) rfl ?_
              refine WL_y (Y_pick_f (.bool false) (bf hc57 rfl) rfl) ?_
              refine WL_y (Y_move (.bool false) rfl) ?_
              refine WL_s (j := 6) rfl rfl rfl ?_
              refine WL_s (j := 6) rfl rfl rfl ?_
              refine WL_s (j := 6) rfl rfl rfl ?_
              refine WL_y (Y_pick_f (.bool false) rfl rfl) ?_
              refine WL_nil (nm_then ?_)
              exact ⟨M26, false, hF56, hS, hT27_2, hT27_3, hT27_8, hT27_9, rfl, hT27_33, hT27_34, hT27_35, rfl, hz⟩
          · rintro T47 w45 ⟨M46, c48, hx49, hS, hT47_2, hT47_3, hT47_8, hT47_9, hT47_11, hT47_33, hT47_34, hT47_35, hT47_49, hz⟩
            replace hcx1 := Rep.mono hx49.1 hcx1
            replace f8 := repL.mono hx49.1 f8
            replace hb21 := Rep.mono hx49.1 hb21
            replace hv29 := repL.mono hx49.1 hv29
            replace hE := Mm.ext.trans hE hx49
            replace hF33 := Mm.ext.trans hF33 hx49
            replace hF42 := Mm.ext.trans hF42 hx49
            rw [graphParts_j3] at hz
            refine W_cond hT47_49 (fun hc50 => ?_) (fun hc50 => ?_)
            · replace hz := bif_ok_t hz hc50
              refine W_reg ?_
              refine WL_y (Y_move (v29) hT47_9) ?_
              refine WL_y (Y_move (.int .i64 x44) hT47_11) ?_
              refine WL_c (O_bslice (α := Int) (l := ([x44] : List Int)) [.int .i64 x44] tl23 (bpc rfl bp0) rfl rfl (by decide) (by decide) (by decide) hS (brc (show rep M46 [Value.int .i64 x44] (x44 : Int) from rfl) br0) ?_)
              intro v52 M52 w51 hx52 hv52 hS
              replace hcx1 := Rep.mono hx52.1 hcx1
              replace f8 := repL.mono hx52.1 f8
              replace hb21 := Rep.mono hx52.1 hb21
              replace hv29 := repL.mono hx52.1 hv29
              replace hE := Mm.ext.trans hE hx52
              replace hF33 := Mm.ext.trans hF33 hx52
              replace hF42 := Mm.ext.trans hF42 hx52
              obtain ⟨l55, hr54, hz⟩ := bind_ok hz
              obtain ⟨hy54, hr54⟩ := app_some hr54
              refine WL_c (O_app (α := Int) (j := 0) tp23 hS rfl rfl rfl hv29 hv52 hy54 ?_)
              intro v54 M54 w53 hx54 hv54 hS
              rw [← hr54] at hv54
              clear hr54
              replace hcx1 := Rep.mono hx54.1 hcx1
              replace f8 := repL.mono hx54.1 f8
              replace hb21 := Rep.mono hx54.1 hb21
              replace hv29 := repL.mono hx54.1 hv29
              replace hv52 := repL.mono hx54.1 hv52
              replace hE := Mm.ext.trans hE hx54
              replace hF33 := Mm.ext.trans hF33 hx54
              replace hF42 := Mm.ext.trans hF42 hx54
              replace hS : St w noX M54 [.row v54 3 1, .box b19 cs21 22, .box b5 cx1 26] w53 := hS
              refine WL_y (Y_assign (v54) rfl) ?_
              refine WL_nil (nm_blk ?_)
              refine (nm_then ?_)
              exact ⟨M54, v54, l55, hF42, hS, hv54, hT47_2, hT47_3, hT47_8, rfl, hT47_33, hT47_34, hT47_35, hz⟩
            · replace hz := bif_ok_f hz hc50
              refine W_skip (nm_blk ?_)
              refine (nm_then ?_)
              exact ⟨M46, v29, l28, hF42, hS, hv29, hT47_2, hT47_3, hT47_8, hT47_9, hT47_33, hT47_34, hT47_35, hz⟩
        · rintro T38 w36 ⟨M37, v40, l39, hx41, hS, hv40, hT38_2, hT38_3, hT38_8, hT38_9, hT38_33, hT38_34, hT38_35, hz⟩
          replace hcx1 := Rep.mono hx41.1 hcx1
          replace f8 := repL.mono hx41.1 f8
          replace hb21 := Rep.mono hx41.1 hb21
          replace hE := Mm.ext.trans hE hx41
          replace hF33 := Mm.ext.trans hF33 hx41
          rw [graphParts_j2] at hz
          refine W_reg ?_
          refine WL_y (Y_add hT38_35 rfl) ?_
          refine WL_y (Y_move (.int .i64 (IntKind.wrap .i64 (y30 + 1))) rfl) ?_
          refine WL_nil (nm_then ?_)
          exact ⟨M37, v40, l39, (IntKind.wrap .i64 (y30 + 1)), hF33, hS, hv40, hT38_2, hT38_3, hT38_8, hT38_9, hT38_33, hT38_34, rfl, (by rw [← hrec31]; exact hz)⟩
      · replace hz := bif_ok_f hz hc35
        refine W_exit ?_
        refine ex_then ?_
        refine ex_then ?_
        refine ex_hit ?_
        refine (nm_then ?_)
        refine W_seq ?_
        refine W_reg ?_
        refine WL_y (Y_move (v29) hT27_9) ?_
        have ha63 := (rep_root (k := 64) rfl hcx1)
        refine WL_y (Y_ldn ta26 hT27_3 (hS.bvB 2 rfl) (Rep.len ha63)) ?_
        refine WL_y (Y_move (.int .i64 x3) hT27_2) ?_
        obtain ⟨r66, hr65, hz⟩ := bind_ok hz
        refine WL_c (O_mem (vs := [.agg (sl cx1 (0) 64).toArray, .int .i64 x3]) (rv := (fun M' u => repL M' u r66)) cb15 (args2 rfl rfl) hS (gorder_ok hS.agree ha63 hr65) ?_)
        intro u65 M65 w64 hx65 hu65 hS
        have f65 : repL M65 u65 r66 := hu65
        replace hcx1 := Rep.mono hx65.1 hcx1
        replace hb21 := Rep.mono hx65.1 hb21
        replace hv29 := repL.mono hx65.1 hv29
        replace ha63 := Rep.mono hx65.1 ha63
        replace hE := Mm.ext.trans hE hx65
        replace hF33 := Mm.ext.trans hF33 hx65
        obtain ⟨r69, hr68, hz⟩ := bind_ok hz
        refine WL_c (O_val (vs := [v29, u65]) (v := .bool r69) cb20 (args2 rfl rfl) hS (keepSameNumbers_ok hS.agree hv29 f65 hr68) ?_)
        intro w67 hS
        refine WL_y (Y_assign (.bool r69) rfl) ?_
        refine WL_nil (nm_then ?_)
        cases hz
        exact W_ret (R_t1 rfl rfl ⟨rfl, (St.dropB (St.dropB (St.drop hS) hb19) hb5).kept⟩)

def graphStays_j2 (c40 : Bool) : Option Bool :=
    some c40

def graphStays_j1 (fu : Nat) (x1 : GGraph) (x2 : Int) (x3 : Int) (x4 : List Int) : Option Bool :=
    (some x1).bind fun d16 =>
    (inR x3 32).bind fun _ =>
    (idxV d16.known x3).bind fun x21 =>
    (setV d16.known x3 true).bind fun a24 =>
    (some ({ d16 with known := a24 } : GGraph)).bind fun d26 =>
    (inR x3 32).bind fun _ =>
    (idxV d26.deps x3).bind fun x31 =>
    (setV d26.deps x3 x4).bind fun a34 =>
    (some ({ d26 with deps := a34 } : GGraph)).bind fun d36 =>
    (readyD fu d36 x2).bind fun r49 =>
    (bif r49 then
    (gorderD fu d36 x2).bind fun r56 =>
    (gorderD fu x1 x2).bind fun r60 =>
    (keepSameNumbersD fu r56 r60).bind fun r64 =>
    (bif r64 then
    (keepOrdersD fu).bind fun r69 =>
    graphStays_j2 r69
    else
    graphStays_j2 false)
    else
    graphStays_j2 false)

def graphStays_j3 (fu : Nat) (x1 : GGraph) (x2 : Int) (x3 : Int) (x4 : List Int) (c75 : Bool) : Option Bool :=
    (bif c75 then
    (keepOrdersD fu).bind fun r80 =>
    some r80
    else
    graphStays_j1 fu x1 x2 x3 x4)

def graphStaysD (fu : Nat) (x1 : GGraph) (x2 : Int) (x3 : Int) (x4 : List Int) : Option Bool :=
    (bif decide (x3 < 0) then
    graphStays_j3 fu x1 x2 x3 x4 true
    else
    (bif decide (x3 ≥ 32) then
    graphStays_j3 fu x1 x2 x3 x4 true
    else
    (readyD fu x1 x2).bind fun r87 =>
    (bif !r87 then
    graphStays_j3 fu x1 x2 x3 x4 true
    else
    (reachD fu x1 x2).bind fun r92 =>
    (idxV r92 x3).bind fun x93 =>
    graphStays_j3 fu x1 x2 x3 x4 x93)))

set_option maxRecDepth 100000 in
set_option maxHeartbeats 4000000 in
theorem graphStays_ok {M : Mm} {w : World} {cx1 : List Value} {vx4 : Value} {x1 : GGraph} {x2 : Int} {x3 : Int} {x4 : List Int} {fu : Nat} {r : Bool} (hA : Agree M w) (hcx1 : rep M cx1 x1) (hvx4 : repL M vx4 x4) (hz : graphStaysD fu x1 x2 x3 x4 = some r) :
    Calls Try.prog 5 #[.agg cx1.toArray, .int .i64 x2, .int .i64 x3, vx4] w (GivesV w (.bool r)) := by
  refine calls_W Try.func5 rfl 53 rfl rfl (by kernel_rfl) fun T hT => ?_
  have hT_0 : T 0 = .agg cx1.toArray := hT 0
  have hT_1 : T 1 = .int .i64 x2 := hT 1
  have hT_2 : T 2 = .int .i64 x3 := hT 2
  have hT_3 : T 3 = vx4 := hT 3
  clear hT
  have hE := Mm.ext.refl w.heap.size noX M
  have hS : St w noX M [] w := St.start hA
  rw [graphStaysD] at hz
  refine W_seq ?_
  refine W_reg ?_
  refine WL_c (O_box (v := .agg cx1.toArray) (cs := cx1) hT_0 rfl hS ?_)
  intro b6 w5 hb6 hS
  replace hS : St w noX M [.box b6 cx1 26] w5 := hS
  refine WL_y (Y_assign (.bool false) rfl) ?_
  refine WL_nil (nm_then ?_)
  refine W_seqJ (fun T' w' => ∃ M8, Mm.ext w.heap.size noX M M8 ∧ St w noX M8 [.box b6 cx1 26] w' ∧ T' 1 = .int .i64 x2 ∧ T' 2 = .int .i64 x3 ∧ T' 3 = vx4 ∧ T' 4 = .pointer (some ⟨b6, 0, none⟩) ∧ graphStays_j1 fu x1 x2 x3 x4 = some r) ?_ ?_
  · have hF71 := Mm.ext.refl w.heap.size noX M
    refine W_seqJ (fun T' w' => ∃ M73 c75, Mm.ext w.heap.size noX M M73 ∧ St w noX M73 [.box b6 cx1 26] w' ∧ T' 1 = .int .i64 x2 ∧ T' 2 = .int .i64 x3 ∧ T' 3 = vx4 ∧ T' 4 = .pointer (some ⟨b6, 0, none⟩) ∧ T' 28 = .bool c75 ∧ graphStays_j3 fu x1 x2 x3 x4 c75 = some r) ?_ ?_
    · have hF81 := Mm.ext.refl w.heap.size noX M
      refine W_reg ?_
      refine WL_y (Y_move (.int .i64 x3) hT_2) ?_
      refine WL_y (Y_lss rfl rfl) ?_
      refine WL_y (Y_move (.bool (decide (x3 < 0))) rfl) ?_
      rcases Bool.eq_false_or_eq_true (decide (x3 < 0)) with hc82 | hc82
      · replace hz := bif_ok_t hz hc82
        refine WL_s (j := 2) rfl (bt hc82 rfl) rfl ?_
        refine WL_s (j := 2) rfl (bt hc82 rfl) rfl ?_
        refine WL_y (Y_pick_t (.bool true) (bt hc82 rfl) rfl) ?_
        refine WL_y (Y_move (.bool true) rfl) ?_
        refine WL_s (j := 6) rfl rfl rfl ?_
        refine WL_s (j := 6) rfl rfl rfl ?_
        refine WL_s (j := 6) rfl rfl rfl ?_
        refine WL_s (j := 6) rfl rfl rfl ?_
        refine WL_y (Y_pick_t (.bool true) rfl rfl) ?_
        refine WL_y (Y_move (.bool true) rfl) ?_
        refine WL_s (j := 12) rfl rfl rfl ?_
        refine WL_s (j := 12) rfl rfl rfl ?_
        refine WL_s (j := 12) rfl rfl rfl ?_
        refine WL_s (j := 12) rfl rfl rfl ?_
        refine WL_s (j := 12) rfl rfl rfl ?_
        refine WL_y (Y_pick_t (.bool true) rfl rfl) ?_
        refine WL_nil (nm_then ?_)
        exact ⟨M, true, hF81, hS, hT_1, hT_2, hT_3, rfl, rfl, hz⟩
      · replace hz := bif_ok_f hz hc82
        refine WL_gy rfl (bf hc82 rfl) (Y_move (.int .i64 x3) hT_2) ?_
        refine WL_gy rfl (bf hc82 rfl) (Y_geq rfl rfl) ?_
        refine WL_y (Y_pick_f (.bool (decide (x3 ≥ 32))) (bf hc82 rfl) rfl) ?_
        refine WL_y (Y_move (.bool (decide (x3 ≥ 32))) rfl) ?_
        rcases Bool.eq_false_or_eq_true (decide (x3 ≥ 32)) with hc83 | hc83
        · replace hz := bif_ok_t hz hc83
          refine WL_s (j := 6) rfl (bt hc83 rfl) rfl ?_
          refine WL_s (j := 6) rfl (bt hc83 rfl) rfl ?_
          refine WL_s (j := 6) rfl (bt hc83 rfl) rfl ?_
          refine WL_s (j := 6) rfl (bt hc83 rfl) rfl ?_
          refine WL_y (Y_pick_t (.bool true) (bt hc83 rfl) rfl) ?_
          refine WL_y (Y_move (.bool true) rfl) ?_
          refine WL_s (j := 12) rfl rfl rfl ?_
          refine WL_s (j := 12) rfl rfl rfl ?_
          refine WL_s (j := 12) rfl rfl rfl ?_
          refine WL_s (j := 12) rfl rfl rfl ?_
          refine WL_s (j := 12) rfl rfl rfl ?_
          refine WL_y (Y_pick_t (.bool true) rfl rfl) ?_
          refine WL_nil (nm_then ?_)
          exact ⟨M, true, hF81, hS, hT_1, hT_2, hT_3, rfl, rfl, hz⟩
        · replace hz := bif_ok_f hz hc83
          have ha84 := (rep_root (k := 64) rfl hcx1)
          refine WL_gy rfl (bf hc83 rfl) (Y_ldn ta26 rfl (hS.bvB 0 rfl) (Rep.len ha84)) ?_
          refine WL_gy rfl (bf hc83 rfl) (Y_move (.int .i64 x2) hT_1) ?_
          obtain ⟨r87, hr86, hz⟩ := bind_ok hz
          refine WL_g rfl (bf hc83 rfl) (O_val (vs := [.agg (sl cx1 (0) 64).toArray, .int .i64 x2]) (v := .bool r87) cb16 (args2 rfl rfl) hS (ready_ok hS.agree ha84 hr86) ?_)
          intro w85 hS
          refine WL_gy rfl (bf hc83 rfl) (Y_not rfl) ?_
          refine WL_y (Y_pick_f (.bool (!r87)) (bf hc83 rfl) rfl) ?_
          refine WL_y (Y_move (.bool (!r87)) rfl) ?_
          rcases Bool.eq_false_or_eq_true (!r87) with hc88 | hc88
          · replace hz := bif_ok_t hz hc88
            refine WL_s (j := 12) rfl (bt hc88 rfl) rfl ?_
            refine WL_s (j := 12) rfl (bt hc88 rfl) rfl ?_
            refine WL_s (j := 12) rfl (bt hc88 rfl) rfl ?_
            refine WL_s (j := 12) rfl (bt hc88 rfl) rfl ?_
            refine WL_s (j := 12) rfl (bt hc88 rfl) rfl ?_
            refine WL_y (Y_pick_t (.bool true) (bt hc88 rfl) rfl) ?_
            refine WL_nil (nm_then ?_)
            exact ⟨M, true, hF81, hS, hT_1, hT_2, hT_3, rfl, rfl, hz⟩
          · replace hz := bif_ok_f hz hc88
            have ha89 := (rep_root (k := 64) rfl hcx1)
            refine WL_gy rfl (bf hc88 rfl) (Y_ldn ta26 rfl (hS.bvB 0 rfl) (Rep.len ha89)) ?_
            refine WL_gy rfl (bf hc88 rfl) (Y_move (.int .i64 x2) hT_1) ?_
            obtain ⟨r92, hr91, hz⟩ := bind_ok hz
            refine WL_g rfl (bf hc88 rfl) (O_mem (vs := [.agg (sl cx1 (0) 64).toArray, .int .i64 x2]) (rv := (fun M' u => ∃ cs, u = .agg cs.toArray ∧ rep M' cs r92)) cb18 (args2 rfl rfl) hS (reach_ok hS.agree ha89 hr91) ?_)
            intro u91 M91 w90 hx91 hu91 hS
            obtain ⟨c91, hq91, f91⟩ := hu91
            subst hq91
            replace hcx1 := Rep.mono hx91.1 hcx1
            replace hvx4 := repL.mono hx91.1 hvx4
            replace ha84 := Rep.mono hx91.1 ha84
            replace ha89 := Rep.mono hx91.1 ha89
            replace hE := Mm.ext.trans hE hx91
            replace hF71 := Mm.ext.trans hF71 hx91
            replace hF81 := Mm.ext.trans hF81 hx91
            refine WL_gy rfl (bf hc88 rfl) (Y_move (.int .i64 x3) hT_2) ?_
            obtain ⟨x93, hx94, hz⟩ := bind_ok hz
            obtain ⟨hx94a, hx94b, hx94⟩ := repV_at f91 hx94
            refine WL_gy rfl (bf hc88 rfl) (Y_ixV1 (.bool x93) iv22 rfl rfl hx94a hx94b hx94) ?_
            refine WL_y (Y_pick_f (.bool x93) (bf hc88 rfl) rfl) ?_
            refine WL_nil (nm_then ?_)
            exact ⟨M91, x93, hF81, hS, hT_1, hT_2, hT_3, rfl, rfl, hz⟩
    · rintro T74 w72 ⟨M73, c75, hx76, hS, hT74_1, hT74_2, hT74_3, hT74_4, hT74_28, hz⟩
      replace hcx1 := Rep.mono hx76.1 hcx1
      replace hvx4 := repL.mono hx76.1 hvx4
      replace hE := Mm.ext.trans hE hx76
      replace hF71 := Mm.ext.trans hF71 hx76
      rw [graphStays_j3] at hz
      refine W_cond hT74_28 (fun hc77 => ?_) (fun hc77 => ?_)
      · replace hz := bif_ok_t hz hc77
        refine W_seq ?_
        refine W_reg ?_
        obtain ⟨r80, hr79, hz⟩ := bind_ok hz
        refine WL_c (O_val (vs := []) (v := .bool r80) cb17 args0 hS (keepOrders_ok hS.agree hr79) ?_)
        intro w78 hS
        refine WL_y (Y_assign (.bool r80) rfl) ?_
        refine WL_nil (nm_then ?_)
        cases hz
        exact W_ret (rt_then (R_t1 rfl rfl ⟨rfl, (St.dropB hS hb6).kept⟩))
      · replace hz := bif_ok_f hz hc77
        refine W_skip (nm_then ?_)
        exact ⟨M73, hF71, hS, hT74_1, hT74_2, hT74_3, hT74_4, hz⟩
  · rintro T9 w7 ⟨M8, hx10, hS, hT9_1, hT9_2, hT9_3, hT9_4, hz⟩
    replace hcx1 := Rep.mono hx10.1 hcx1
    replace hvx4 := repL.mono hx10.1 hvx4
    replace hE := Mm.ext.trans hE hx10
    rw [graphStays_j1] at hz
    refine W_seq ?_
    refine W_reg ?_
    have ha11 := (rep_root (k := 64) rfl hcx1)
    refine WL_y (Y_ldn ta26 hT9_4 (hS.bvB 0 rfl) (Rep.len ha11)) ?_
    refine WL_c (O_alloc tz26 hS ?_)
    intro b13 w12 hb13 hS
    replace hS : St w noX M8 [.box b13 (Zr.zc GGraph) 26, .box b6 cx1 26] w12 := hS
    have zb13 : rep M8 (Zr.zc GGraph) (Zr.zd : GGraph) := Zr.zr
    have hw15 : ((sl cx1 (0) 64) : List Value).length = 64 := Rep.len ha11
    have hl15 : ((Zr.zc GGraph)).length = 64 := Rep.len zb13
    obtain ⟨d16, hd15, hz⟩ := bind_ok hz
    have hb15 : rep M8 (pt (Zr.zc GGraph) (0) (sl cx1 (0) 64)) d16 := rep_eq (rep_whole (k := 64) (by rw [pt_length (by omega)]; exact hl15) (rep_leaf rfl ha11 (by omega))) hd15
    generalize hg15 : (pt (Zr.zc GGraph) (0) (sl cx1 (0) 64)) = cs15 at hb15
    refine WL_c (O_st (j := 0) (v := .agg (sl cx1 (0) 64).toArray) (ws := (sl cx1 (0) 64)) hS rfl (by kernel_rfl) rfl rfl rfl hw15 (Rep.one ha11) (by omega) ?_)
    rw [hg15]
    clear hg15
    intro w14 hS
    replace hS : St w noX M8 [.box b13 cs15 26, .box b6 cx1 26] w14 := hS
    refine WL_nil (nm_then ?_)
    refine W_seq ?_
    refine W_reg ?_
    refine WL_y (Y_move (.int .i64 x3) hT9_2) ?_
    refine WL_y (Y_move (.int .i64 x3) hT9_2) ?_
    refine WL_y (Y_move (vx4) hT9_3) ?_
    refine WL_y (Y_fa fa26_0 rfl) ?_
    obtain ⟨u17, hx18, hz⟩ := bind_ok hz
    obtain ⟨hx18a, hx18b⟩ := inR_some hx18
    refine WL_y (Y_ixA ia22 rfl rfl hx18a hx18b) ?_
    obtain ⟨x21, hx22, hz⟩ := bind_ok hz
    have hw20 : ([.bool true] : List Value).length = 1 := Rep.len (show rep M8 [Value.bool true] (true : Bool) from rfl)
    have hl20 : (cs15).length = 64 := Rep.len hb15
    have hq23 := (idxV_some hx22)
    obtain ⟨a24, hx25, hz⟩ := bind_ok hz
    obtain ⟨d26, hd20, hz⟩ := bind_ok hz
    have hb20 : rep M8 (pt cs15 (0 + 0 + Int.toNat x3 * 1) [.bool true]) d26 := rep_eq (rep_whole (k := 64) (by rw [pt_length (by omega)]; exact hl20) (GGraph.s0 (rep_root (k := 64) rfl hb15) (vs (k := 1) rfl rfl (GGraph.p0 (rep_root (k := 64) rfl hb15)) (rep_leaf rfl (show rep M8 [Value.bool true] (true : Bool) from rfl) (by omega)) hx25 (by omega) (by omega) (by omega)) (by omega) (by omega) (by omega))) hd20
    generalize hg20 : (pt cs15 (0 + 0 + Int.toNat x3 * 1) [.bool true]) = cs20 at hb20
    refine WL_c (O_st (j := 0) (v := .bool true) (ws := [.bool true]) hS rfl (by kernel_rfl) rfl rfl rfl hw20 (Rep.one (show rep M8 [Value.bool true] (true : Bool) from rfl)) (by omega) ?_)
    rw [hg20]
    clear hg20
    intro w19 hS
    replace hS : St w noX M8 [.box b13 cs20 26, .box b6 cx1 26] w19 := hS
    refine WL_y (Y_fa fa26_1 rfl) ?_
    obtain ⟨u27, hx28, hz⟩ := bind_ok hz
    obtain ⟨hx28a, hx28b⟩ := inR_some hx28
    refine WL_y (Y_ixA ia24 rfl rfl hx28a hx28b) ?_
    obtain ⟨x31, hx32, hz⟩ := bind_ok hz
    have hw30 : ([vx4] : List Value).length = 1 := Rep.len (repL_rep hvx4)
    have hl30 : (cs20).length = 64 := Rep.len hb20
    have hq33 := (idxV_some hx32)
    obtain ⟨a34, hx35, hz⟩ := bind_ok hz
    obtain ⟨d36, hd30, hz⟩ := bind_ok hz
    have hb30 : rep M8 (pt cs20 (0 + 32 + Int.toNat x3 * 1) [vx4]) d36 := rep_eq (rep_whole (k := 64) (by rw [pt_length (by omega)]; exact hl30) (GGraph.s1 (rep_root (k := 64) rfl hb20) (vs (k := 1) rfl rfl (GGraph.p1 (rep_root (k := 64) rfl hb20)) (rep_leaf rfl (repL_rep hvx4) (by omega)) hx35 (by omega) (by omega) (by omega)) (by omega) (by omega) (by omega))) hd30
    generalize hg30 : (pt cs20 (0 + 32 + Int.toNat x3 * 1) [vx4]) = cs30 at hb30
    refine WL_c (O_st (j := 0) (v := vx4) (ws := [vx4]) hS rfl (by kernel_rfl) rfl rfl (repL_cells hvx4) hw30 (Rep.one (repL_rep hvx4)) (by omega) ?_)
    rw [hg30]
    clear hg30
    intro w29 hS
    replace hS : St w noX M8 [.box b13 cs30 26, .box b6 cx1 26] w29 := hS
    refine WL_nil (nm_then ?_)
    refine W_seqJ (fun T' w' => ∃ M38 c40, Mm.ext w.heap.size noX M8 M38 ∧ St w noX M38 [.box b13 cs30 26, .box b6 cx1 26] w' ∧ T' 8 = .bool c40 ∧ graphStays_j2 c40 = some r) ?_ ?_
    · have hF42 := Mm.ext.refl w.heap.size noX M8
      refine W_drawB (Rd M8 [.box b13 cs30 26, .box b6 cx1 26]) (inL []) mixed hS fun w43 hS => ?_
      have hG44 := Mm.ext.refl w.heap.size noX M8
      have hR45 : Rd M8 [.box b13 cs30 26, .box b6 cx1 26] w43 := Rd.of hS hG44 (by simp)
      have ha46 := (rep_root (k := 64) rfl hb30)
      refine WB_ld (i := 0) rfl (by kernel_rfl) rfl (inL_lt rfl) (by kernel_rfl) (by kernel_rfl) (Y_ldn ta26 rfl (bvR 0 rfl) (Rep.len ha46)) hR45 ?_
      refine WB_y (i := 1) rfl (by kernel_rfl) rfl (Y_move (.int .i64 x2) hT9_1) (fun _ => hR45) ?_
      obtain ⟨r49, hr48, hz⟩ := bind_ok hz
      refine WB_one (i := 2) (by kernel_rfl) rfl (O_val (vs := [.agg (sl cs30 (0) 64).toArray, .int .i64 x2]) (v := .bool r49) cb16 (args2 rfl rfl) hS (ready_ok hS.agree ha46 hr48) ?_)
      intro w47 hS
      have hR50 : Rd M8 [.box b13 cs30 26, .box b6 cx1 26] w47 := Rd.of hS hG44 (by simp)
      refine ⟨fun _ => hR50, ?_⟩
      refine WB_y (i := 3) rfl (by kernel_rfl) rfl (Y_move (.bool r49) rfl) (fun _ => hR50) ?_
      rcases Bool.eq_false_or_eq_true r49 with hc51 | hc51
      · replace hz := bif_ok_t hz hc51
        have ha52 := (rep_root (k := 64) rfl hb30)
        refine WB_gld (i := 4) rfl (by kernel_rfl) rfl (inL_lt rfl) (by kernel_rfl) (by kernel_rfl) rfl (bt hc51 rfl) (Y_ldn ta26 rfl (bvR 0 rfl) (Rep.len ha52)) hR50 ?_
        refine WB_gy (i := 5) rfl (by kernel_rfl) rfl rfl (bt hc51 rfl) (Y_move (.int .i64 x2) hT9_1) (fun _ => hR50) ?_
        have ha53 := (rep_root (k := 64) rfl hcx1)
        refine WB_gld (i := 7) rfl (by kernel_rfl) rfl (inL_lt rfl) (by kernel_rfl) (by kernel_rfl) rfl (bt hc51 rfl) (Y_ldn ta26 hT9_4 (bvR 1 rfl) (Rep.len ha53)) hR50 ?_
        refine WB_gy (i := 8) rfl (by kernel_rfl) rfl rfl (bt hc51 rfl) (Y_move (.int .i64 x2) hT9_1) (fun _ => hR50) ?_
        obtain ⟨r56, hr55, hz⟩ := bind_ok hz
        refine WB_one_g (i := 6) (by kernel_rfl) rfl rfl (bt hc51 rfl) (O_mem (vs := [.agg (sl cs30 (0) 64).toArray, .int .i64 x2]) (rv := (fun M' u => repL M' u r56)) cb15 (args2 rfl rfl) hS (gorder_ok hS.agree ha52 hr55) ?_)
        intro u55 M55 w54 hx55 hu55 hS
        have f55 : repL M55 u55 r56 := hu55
        replace hcx1 := Rep.mono hx55.1 hcx1
        replace hb30 := Rep.mono hx55.1 hb30
        replace ha46 := Rep.mono hx55.1 ha46
        replace ha52 := Rep.mono hx55.1 ha52
        replace ha53 := Rep.mono hx55.1 ha53
        replace hE := Mm.ext.trans hE hx55
        replace hF42 := Mm.ext.trans hF42 hx55
        replace hG44 := Mm.ext.trans hG44 hx55
        have hR57 : Rd M8 [.box b13 cs30 26, .box b6 cx1 26] w54 := Rd.of hS hG44 (by simp)
        refine ⟨fun _ => hR57, ?_⟩
        obtain ⟨r60, hr59, hz⟩ := bind_ok hz
        refine WB_one_g (i := 9) (by kernel_rfl) rfl rfl (bt hc51 rfl) (O_mem (vs := [.agg (sl cx1 (0) 64).toArray, .int .i64 x2]) (rv := (fun M' u => repL M' u r60)) cb15 (args2 rfl rfl) hS (gorder_ok hS.agree ha53 hr59) ?_)
        intro u59 M59 w58 hx59 hu59 hS
        have f59 : repL M59 u59 r60 := hu59
        replace hcx1 := Rep.mono hx59.1 hcx1
        replace hb30 := Rep.mono hx59.1 hb30
        replace ha46 := Rep.mono hx59.1 ha46
        replace ha52 := Rep.mono hx59.1 ha52
        replace ha53 := Rep.mono hx59.1 ha53
        replace f55 := repL.mono hx59.1 f55
        replace hE := Mm.ext.trans hE hx59
        replace hF42 := Mm.ext.trans hF42 hx59
        replace hG44 := Mm.ext.trans hG44 hx59
        have hR61 : Rd M8 [.box b13 cs30 26, .box b6 cx1 26] w58 := Rd.of hS hG44 (by simp)
        refine ⟨fun _ => hR61, ?_⟩
        obtain ⟨r64, hr63, hz⟩ := bind_ok hz
        refine WB_one_g (i := 10) (by kernel_rfl) rfl rfl (bt hc51 rfl) (O_val (vs := [u55, u59]) (v := .bool r64) cb20 (args2 rfl rfl) hS (keepSameNumbers_ok hS.agree f55 f59 hr63) ?_)
        intro w62 hS
        have hR65 : Rd M8 [.box b13 cs30 26, .box b6 cx1 26] w62 := Rd.of hS hG44 (by simp)
        refine ⟨fun _ => hR65, ?_⟩
        refine WB_y (i := 11) rfl (by kernel_rfl) rfl (Y_pick_t (.bool r64) (bt hc51 rfl) rfl) (fun _ => hR65) ?_
        refine WB_y (i := 12) rfl (by kernel_rfl) rfl (Y_move (.bool r64) rfl) (fun _ => hR65) ?_
        rcases Bool.eq_false_or_eq_true r64 with hc66 | hc66
        · replace hz := bif_ok_t hz hc66
          obtain ⟨r69, hr68, hz⟩ := bind_ok hz
          refine WB_one_g (i := 13) (by kernel_rfl) rfl rfl (bt hc66 rfl) (O_val (vs := []) (v := .bool r69) cb17 args0 hS (keepOrders_ok hS.agree hr68) ?_)
          intro w67 hS
          have hR70 : Rd M8 [.box b13 cs30 26, .box b6 cx1 26] w67 := Rd.of hS hG44 (by simp)
          refine ⟨fun _ => hR70, ?_⟩
          refine WB_y (i := 14) rfl (by kernel_rfl) rfl (Y_pick_t (.bool r69) (bt hc66 rfl) rfl) (fun _ => hR70) ?_
          refine WB_y (i := 15) rfl (by kernel_rfl) rfl (Y_assign (.bool r69) rfl) (fun _ => hR70) ?_
          refine WB_done (by kernel_rfl) (nm_then ?_)
          exact ⟨M59, r69, hF42, hS, rfl, hz⟩
        · replace hz := bif_ok_f hz hc66
          refine WB_s (i := 13) (j := 12) rfl (by kernel_rfl) rfl rfl (bf hc66 rfl) rfl (fun _ => hR65) ?_
          refine WB_y (i := 14) rfl (by kernel_rfl) rfl (Y_pick_f (.bool false) (bf hc66 rfl) rfl) (fun _ => hR65) ?_
          refine WB_y (i := 15) rfl (by kernel_rfl) rfl (Y_assign (.bool false) rfl) (fun _ => hR65) ?_
          refine WB_done (by kernel_rfl) (nm_then ?_)
          exact ⟨M59, false, hF42, hS, rfl, hz⟩
      · replace hz := bif_ok_f hz hc51
        refine WB_s (i := 4) (j := 3) rfl (by kernel_rfl) rfl rfl (bf hc51 rfl) rfl (fun _ => hR50) ?_
        refine WB_s (i := 5) (j := 3) rfl (by kernel_rfl) rfl rfl (bf hc51 rfl) rfl (fun _ => hR50) ?_
        refine WB_s (i := 6) (j := 3) rfl (by kernel_rfl) rfl rfl (bf hc51 rfl) rfl (fun _ => hR50) ?_
        refine WB_s (i := 7) (j := 3) rfl (by kernel_rfl) rfl rfl (bf hc51 rfl) rfl (fun _ => hR50) ?_
        refine WB_s (i := 8) (j := 3) rfl (by kernel_rfl) rfl rfl (bf hc51 rfl) rfl (fun _ => hR50) ?_
        refine WB_s (i := 9) (j := 3) rfl (by kernel_rfl) rfl rfl (bf hc51 rfl) rfl (fun _ => hR50) ?_
        refine WB_s (i := 10) (j := 3) rfl (by kernel_rfl) rfl rfl (bf hc51 rfl) rfl (fun _ => hR50) ?_
        refine WB_y (i := 11) rfl (by kernel_rfl) rfl (Y_pick_f (.bool false) (bf hc51 rfl) rfl) (fun _ => hR50) ?_
        refine WB_y (i := 12) rfl (by kernel_rfl) rfl (Y_move (.bool false) rfl) (fun _ => hR50) ?_
        refine WB_s (i := 13) (j := 12) rfl (by kernel_rfl) rfl rfl rfl rfl (fun _ => hR50) ?_
        refine WB_y (i := 14) rfl (by kernel_rfl) rfl (Y_pick_f (.bool false) rfl rfl) (fun _ => hR50) ?_
        refine WB_y (i := 15) rfl (by kernel_rfl) rfl (Y_assign (.bool false) rfl) (fun _ => hR50) ?_
        refine WB_done (by kernel_rfl) (nm_then ?_)
        exact ⟨M8, false, hF42, hS, rfl, hz⟩
    · rintro T39 w37 ⟨M38, c40, hx41, hS, hT39_8, hz⟩
      replace hcx1 := Rep.mono hx41.1 hcx1
      replace hb30 := Rep.mono hx41.1 hb30
      replace hE := Mm.ext.trans hE hx41
      rw [graphStays_j2] at hz
      cases hz
      exact W_ret (R_t1 rfl hT39_8 ⟨rfl, (St.dropB (St.dropB hS hb13) hb6).kept⟩)

end Go.Proofs.Ytnfdgjdnlikepab
