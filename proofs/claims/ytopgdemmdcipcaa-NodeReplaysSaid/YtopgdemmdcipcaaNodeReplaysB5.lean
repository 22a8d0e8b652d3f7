/- What the proof of NodeReplays rests on, part 5: rules of walks, what functions compute, and plain laws of it. -/
import Derived.Test.YtopgdemmdcipcaaNodeReplaysB4
namespace Go.Proofs.Ytopgdemmdcipcaa
open Go.RowKit
open Rep (rep)
set_option linter.unusedVariables false
def sameEntry_j1 (c10 : Bool) : Option Bool :=
 some c10
def sameEntryD (fu : Nat) (x1 : GEntry) (x2 : GEntry) : Option Bool :=
 (bif x1.state == x2.state then
 (sameOpsD fu x1.ops x2.ops).bind fun r18 =>
 (bif r18 then
 (some (sameZ x1.first x2.first)).bind fun r24 =>
 (bif r24 then
 (some (sameZ x1.deps x2.deps)).bind fun r30 =>
 (bif r30 then
 (some (sameZ x1.at_ x2.at_)).bind fun r36 =>
 (bif r36 then
 (some (sameZ x1.values x2.values)).bind fun r42 =>
 sameEntry_j1 r42
 else
 sameEntry_j1 false)
 else
 sameEntry_j1 false)
 else
 sameEntry_j1 false)
 else
 sameEntry_j1 false)
 else
 sameEntry_j1 false)
set_option maxRecDepth 100000 in
set_option maxHeartbeats 4000000 in
theorem sameEntry_ok {M : Mm} {w : World} {cx1 : List Value} {cx2 : List Value} {x1 : GEntry} {x2 : GEntry} {fu : Nat} {r : Bool} (hA : Agree M w) (hcx1 : rep M cx1 x1) (hcx2 : rep M cx2 x2) (hz : sameEntryD fu x1 x2 = some r) :
    Calls Try.prog 61 #[.agg cx1.toArray, .agg cx2.toArray] w (GivesV w (.bool r)) := by
 refine calls_W Try.func61 rfl 45 rfl rfl (by kernel_rfl) fun T hT => ?_
 have hT_0 : T 0 = .agg cx1.toArray := hT 0
 have hT_1 : T 1 = .agg cx2.toArray := hT 1
 clear hT
 have hE := Mm.ext.refl w.heap.size noX M
 have hS : St w noX M [] w := St.start hA
 rw [sameEntryD] at hz
 refine W_seq <|W_reg ?_
 refine WL_c (O_box (v := .agg cx1.toArray) (cs := cx1) hT_0 rfl hS ?_)
 intro b4 w3 hb4 hS
 refine WL_c (O_box (v := .agg cx2.toArray) (cs := cx2) hT_1 rfl hS ?_)
 intro b6 w5 hb6 hS
 refine WL_y (Y_assign (.bool false) rfl) ?_
 refine WL_nil (nm_then ?_)
 refine W_seqJ (fun T' w' => ∃ M8 c10, Mm.ext w.heap.size noX M M8 ∧ St w noX M8 [.box b6 cx2 44, .box b4 cx1 44] w' ∧ T' 4 = .bool c10 ∧ sameEntry_j1 c10 = some r) ?_ ?_
 have hF12 := Mm.ext.refl w.heap.size noX M
 refine W_reg <|WL_y (Y_fa fa44_0 rfl) <|WL_y (Y_ld1 (.int .i64 x1.state) ts3 rfl (hS.bvB 1 rfl) (GEntry.p0 (rr hcx1))) <|WL_y (Y_fa fa44_0 rfl) <|WL_y (Y_ld1 (.int .i64 x2.state) ts3 rfl (hS.bvB 0 rfl) (GEntry.p0 (rr hcx2))) <|WL_y (Y_eql rfl rfl) <|WL_y (Y_move (.bool (x1.state == x2.state)) rfl) ?_
 rcases ic hz with ⟨hc13, hz⟩ | ⟨hc13, hz⟩ <;> rw [hc13]
 refine WL_gy rfl rfl (Y_fa fa44_1 rfl) ?_
 obtain ⟨v14, ev14, hv14⟩ := (GEntry.p1 (rr hcx1))
 refine WL_gy rfl rfl (Y_ld1 v14 ts22 rfl (hS.bvB 1 rfl) ev14) <|WL_gy rfl rfl (Y_fa fa44_1 rfl) ?_
 obtain ⟨v15, ev15, hv15⟩ := (GEntry.p1 (rr hcx2))
 refine WL_gy rfl rfl (Y_ld1 v15 ts22 rfl (hS.bvB 0 rfl) ev15) ?_
 obtain ⟨r18, hr17, hz⟩ := bind_ok hz
 refine WL_g rfl rfl (O_val (vs := [v14, v15]) (v := .bool r18) cb67 (args2 rfl rfl) hS (sameOps_ok hS.agree hv14 hv15 hr17) ?_)
 intro w16 hS
 refine WL_d 2 rfl ?_
 rcases ic hz with ⟨hc19, hz⟩ | ⟨hc19, hz⟩ <;> rw [hc19]
 refine WL_gy rfl rfl (Y_fa fa44_2 rfl) ?_
 obtain ⟨v20, ev20, hv20⟩ := (GEntry.p2 (rr hcx1))
 refine WL_gy rfl rfl (Y_ld1 v20 ts27 rfl (hS.bvB 1 rfl) ev20) <|WL_gy rfl rfl (Y_fa fa44_2 rfl) ?_
 obtain ⟨v21, ev21, hv21⟩ := (GEntry.p2 (rr hcx2))
 refine WL_gy rfl rfl (Y_ld1 v21 ts27 rfl (hS.bvB 0 rfl) ev21) ?_
 obtain ⟨r24, hr23, hz⟩ := bind_ok hz
 replace hr23 := Option.some.inj hr23
 refine WL_g rfl rfl (O_val (vs := [v20, v21]) (v := .bool r24) cb36 (args2 rfl rfl) hS (hr23 ▸ (c_sameNumbers hS.agree hv20 hv21)) ?_)
 intro w22 hS
 refine WL_d 2 rfl ?_
 rcases ic hz with ⟨hc25, hz⟩ | ⟨hc25, hz⟩ <;> rw [hc25]
 refine WL_gy rfl rfl (Y_fa fa44_3 rfl) ?_
 obtain ⟨v26, ev26, hv26⟩ := (GEntry.p3 (rr hcx1))
 refine WL_gy rfl rfl (Y_ld1 v26 ts27 rfl (hS.bvB 1 rfl) ev26) <|WL_gy rfl rfl (Y_fa fa44_3 rfl) ?_
 obtain ⟨v27, ev27, hv27⟩ := (GEntry.p3 (rr hcx2))
 refine WL_gy rfl rfl (Y_ld1 v27 ts27 rfl (hS.bvB 0 rfl) ev27) ?_
 obtain ⟨r30, hr29, hz⟩ := bind_ok hz
 replace hr29 := Option.some.inj hr29
 refine WL_g rfl rfl (O_val (vs := [v26, v27]) (v := .bool r30) cb36 (args2 rfl rfl) hS (hr29 ▸ (c_sameNumbers hS.agree hv26 hv27)) ?_)
 intro w28 hS
 refine WL_d 2 rfl ?_
 rcases ic hz with ⟨hc31, hz⟩ | ⟨hc31, hz⟩ <;> rw [hc31]
 refine WL_gy rfl rfl (Y_fa fa44_4 rfl) ?_
 obtain ⟨v32, ev32, hv32⟩ := (GEntry.p4 (rr hcx1))
 refine WL_gy rfl rfl (Y_ld1 v32 ts27 rfl (hS.bvB 1 rfl) ev32) <|WL_gy rfl rfl (Y_fa fa44_4 rfl) ?_
 obtain ⟨v33, ev33, hv33⟩ := (GEntry.p4 (rr hcx2))
 refine WL_gy rfl rfl (Y_ld1 v33 ts27 rfl (hS.bvB 0 rfl) ev33) ?_
 obtain ⟨r36, hr35, hz⟩ := bind_ok hz
 replace hr35 := Option.some.inj hr35
 refine WL_g rfl rfl (O_val (vs := [v32, v33]) (v := .bool r36) cb36 (args2 rfl rfl) hS (hr35 ▸ (c_sameNumbers hS.agree hv32 hv33)) ?_)
 intro w34 hS
 refine WL_d 2 rfl ?_
 rcases ic hz with ⟨hc37, hz⟩ | ⟨hc37, hz⟩ <;> rw [hc37]
 refine WL_gy rfl rfl (Y_fa fa44_5 rfl) ?_
 obtain ⟨v38, ev38, hv38⟩ := (GEntry.p5 (rr hcx1))
 refine WL_gy rfl rfl (Y_ld1 v38 ts27 rfl (hS.bvB 1 rfl) ev38) <|WL_gy rfl rfl (Y_fa fa44_5 rfl) ?_
 obtain ⟨v39, ev39, hv39⟩ := (GEntry.p5 (rr hcx2))
 refine WL_gy rfl rfl (Y_ld1 v39 ts27 rfl (hS.bvB 0 rfl) ev39) ?_
 obtain ⟨r42, hr41, hz⟩ := bind_ok hz
 replace hr41 := Option.some.inj hr41
 refine WL_g rfl rfl (O_val (vs := [v38, v39]) (v := .bool r42) cb36 (args2 rfl rfl) hS (hr41 ▸ (c_sameNumbers hS.agree hv38 hv39)) ?_)
 intro w40 hS
 refine WL_d 2 rfl ?_
 refine WL_nil (nm_then ?_)
 exact ⟨M, r42, hF12, hS, rfl, hz⟩
 refine WL_d 7 rfl ?_
 refine WL_nil (nm_then ?_)
 exact ⟨M, false, hF12, hS, rfl, hz⟩
 refine WL_d 14 rfl ?_
 refine WL_nil (nm_then ?_)
 exact ⟨M, false, hF12, hS, rfl, hz⟩
 refine WL_d 21 rfl ?_
 refine WL_nil (nm_then ?_)
 exact ⟨M, false, hF12, hS, rfl, hz⟩
 refine WL_d 28 rfl ?_
 refine WL_nil (nm_then ?_)
 exact ⟨M, false, hF12, hS, rfl, hz⟩
 refine WL_d 35 rfl ?_
 refine WL_nil (nm_then ?_)
 exact ⟨M, false, hF12, hS, rfl, hz⟩
 rintro T9 w7 ⟨M8, c10, hx11, hS, hT9_4, hz⟩
 replace hcx1 := Rep.mono hx11.1 hcx1
 replace hcx2 := Rep.mono hx11.1 hcx2
 replace hE := Mm.ext.trans hE hx11
 rw [sameEntry_j1] at hz
 cases hz
 exact W_ret (R_t1 rfl hT9_4 ⟨rfl, (St.dropB (St.dropB hS hb6) hb4).kept⟩)
def sameNode_j1 (c37 : Bool) : Option Bool :=
 some c37
def sameNode_l1 (fu : Nat) (x1 : GNode) (x2 : GNode) : Nat → Int → Option Bool
 | 0, _ => none
 | n + 1, y10 =>
 (bif decide (y10 < 32) then
 (inR y10 32).bind fun _ =>
 (idxV x1.entries y10).bind fun x21 =>
 (inR y10 32).bind fun _ =>
 (idxV x2.entries y10).bind fun x26 =>
 (sameEntryD fu x21 x26).bind fun r31 =>
 (bif !r31 then
 some false
 else
 (sameNode_l1 fu x1 x2 n) (IntKind.wrap .i64 (y10 + 1)))
 else
 (some (sameZ x1.order x2.order)).bind fun r44 =>
 (bif r44 then
 sameNode_j1 (decide (x1.values = x2.values))
 else
 sameNode_j1 false))
def sameNodeD (fu : Nat) (x1 : GNode) (x2 : GNode) : Option Bool :=
 sameNode_l1 fu x1 x2 fu 0
set_option maxRecDepth 100000 in
set_option maxHeartbeats 4000000 in
theorem sameNode_ok {M : Mm} {w : World} {cx1 : List Value} {cx2 : List Value} {x1 : GNode} {x2 : GNode} {fu : Nat} {r : Bool} (hA : Agree M w) (hcx1 : rep M cx1 x1) (hcx2 : rep M cx2 x2) (hz : sameNodeD fu x1 x2 = some r) :
    Calls Try.prog 19 #[.agg cx1.toArray, .agg cx2.toArray] w (GivesV w (.bool r)) := by
 refine calls_W Try.func19 rfl 32 rfl rfl (by kernel_rfl) fun T hT => ?_
 have hT_0 : T 0 = .agg cx1.toArray := hT 0
 have hT_1 : T 1 = .agg cx2.toArray := hT 1
 clear hT
 have hE := Mm.ext.refl w.heap.size noX M
 have hS : St w noX M [] w := St.start hA
 rw [sameNodeD] at hz
 refine W_seq <|W_reg ?_
 refine WL_c (O_box (v := .agg cx1.toArray) (cs := cx1) hT_0 rfl hS ?_)
 intro b4 w3 hb4 hS
 refine WL_c (O_box (v := .agg cx2.toArray) (cs := cx2) hT_1 rfl hS ?_)
 intro b6 w5 hb6 hS
 refine WL_y (Y_assign (.bool false) rfl) ?_
 refine WL_nil (nm_then ?_)
 refine W_seq <|W_seq <|W_reg <|WL_y (Y_move (.int .i64 0) rfl) ?_
 refine WL_nil (nm_then ?_)
 refine W_block ?_
 refine W_loop (fun k12 T' w' => ∃ M8 y10, Mm.ext w.heap.size noX M M8 ∧ St w noX M8 [.box b6 cx2 48, .box b4 cx1 48] w' ∧ T' 2 = .pointer (some ⟨b4, 0, none⟩) ∧ T' 3 = .pointer (some ⟨b6, 0, none⟩) ∧ T' 6 = .int .i64 y10 ∧ sameNode_l1 fu x1 x2 k12 y10 = some r) fu ?_ ?_ ?_
 exact ⟨M, (0 : Int), (Mm.ext.refl _ _ _), hS, rfl, rfl, rfl, hz⟩
 rintro T' w' ⟨_, _, _, _, _, _, _, hz⟩
 rw [sameNode_l1] at hz
 cases hz
 intro k12
 rintro T9 w7 ⟨M8, y10, hx14, hS, hT9_2, hT9_3, hT9_6, hz⟩
 replace hcx1 := Rep.mono hx14.1 hcx1
 replace hcx2 := Rep.mono hx14.1 hcx2
 replace hE := Mm.ext.trans hE hx14
 have hF13 := hx14
 rw [sameNode_l1] at hz
 obtain ⟨rec11, hrec11⟩ : ∃ f, f = sameNode_l1 fu x1 x2 k12 := ⟨_, rfl⟩
 rw [← hrec11] at hz
 refine W_seq <|W_reg <|WL_y (Y_lss hT9_6 rfl) ?_
 refine WL_nil (nm_then ?_)
 refine W_seq ?_
 refine W_cond rfl (fun hc15 => ?_) (fun hc15 => ?_)
 replace hz := bif_ok_t hz hc15
 refine W_skip (nm_then ?_)
 refine W_seq <|W_block <|W_seq <|W_reg <|WL_y (Y_move (.int .i64 y10) hT9_6) <|WL_y (Y_assign (.int .i64 y10) rfl) ?_
 refine WL_nil (nm_then ?_)
 refine W_seq <|W_drawB (Rd M8 [.box b6 cx2 48, .box b4 cx1 48]) (inL []) mixed hS fun w16 hS => ?_
 have hG17 := Mm.ext.refl w.heap.size noX M8
 have hR18 : Rd M8 [.box b6 cx2 48, .box b4 cx1 48] w16 := Rd.of hS hG17 (by simp)
 refine WB_y (i := 0) rfl (by kernel_rfl) rfl (Y_move (.int .i64 y10) rfl) (fun _ => hR18) <|WB_y (i := 1) rfl (by kernel_rfl) rfl (Y_fa fa48_0 hT9_2) (fun _ => hR18) ?_
 obtain ⟨u19, hx20, hz⟩ := bind_ok hz
 obtain ⟨hx20a, hx20b⟩ := inR_some hx20
 refine WB_y (i := 2) rfl (by kernel_rfl) rfl (Y_ixA ia45 rfl rfl hx20a hx20b) (fun _ => hR18) ?_
 obtain ⟨x21, hx22, hz⟩ := bind_ok hz
 have ha23 := (vp (k := 6) rfl rfl (GNode.p0 (rr hcx1)) hx22)
 refine WB_ld (i := 3) rfl (by kernel_rfl) rfl (inL_lt rfl) (by kernel_rfl) (by kernel_rfl) (Y_ldn ta44 rfl (bvR 1 rfl) (Rep.len ha23)) hR18 <|WB_y (i := 4) rfl (by kernel_rfl) rfl (Y_move (.int .i64 y10) rfl) (fun _ => hR18) <|WB_y (i := 5) rfl (by kernel_rfl) rfl (Y_fa fa48_0 hT9_3) (fun _ => hR18) ?_
 obtain ⟨u24, hx25, hz⟩ := bind_ok hz
 obtain ⟨hx25a, hx25b⟩ := inR_some hx25
 refine WB_y (i := 6) rfl (by kernel_rfl) rfl (Y_ixA ia45 rfl rfl hx25a hx25b) (fun _ => hR18) ?_
 obtain ⟨x26, hx27, hz⟩ := bind_ok hz
 have ha28 := (vp (k := 6) rfl rfl (GNode.p0 (rr hcx2)) hx27)
 refine WB_ld (i := 7) rfl (by kernel_rfl) rfl (inL_lt rfl) (by kernel_rfl) (by kernel_rfl) (Y_ldn ta44 rfl (bvR 0 rfl) (Rep.len ha28)) hR18 ?_
 obtain ⟨r31, hr30, hz⟩ := bind_ok hz
 refine WB_one (i := 8) (by kernel_rfl) rfl (O_val (vs := [.agg (sl cx1 (0 + 0 + Int.toNat y10 * 6) 6).toArray, .agg (sl cx2 (0 + 0 + Int.toNat y10 * 6) 6).toArray]) (v := .bool r31) cb61 (args2 rfl rfl) hS (sameEntry_ok hS.agree ha23 ha28 hr30) ?_)
 intro w29 hS
 have hR32 : Rd M8 [.box b6 cx2 48, .box b4 cx1 48] w29 := Rd.of hS hG17 (by simp)
 refine ⟨fun _ => hR32, ?_⟩
 refine WB_y (i := 9) rfl (by kernel_rfl) rfl (Y_not rfl) (fun _ => hR32) ?_
 refine WB_done (by kernel_rfl) (nm_then ?_)
 refine W_cond rfl (fun hc33 => ?_) (fun hc33 => ?_)
 replace hz := bif_ok_t hz hc33
 refine W_seq <|W_reg <|WL_y (Y_assign (.bool false) rfl) ?_
 refine WL_nil (nm_then ?_)
 cases hz
 exact W_ret (rt_blk (rt_then (rt_then (rt_blk (rt_then (R_t1 rfl rfl ⟨rfl, (St.dropB (St.dropB hS hb6) hb4).kept⟩))))))
 replace hz := bif_ok_f hz hc33
 refine W_skip (nm_blk ?_)
 refine (nm_then ?_)
 refine W_reg <|WL_y (Y_add hT9_6 rfl) <|WL_y (Y_move (.int .i64 (IntKind.wrap .i64 (y10 + 1))) rfl) ?_
 refine WL_nil (nm_then ?_)
 exact ⟨M8, (IntKind.wrap .i64 (y10 + 1)), hF13, hS, hT9_2, hT9_3, rfl, (by rw [← hrec11]; exact hz)⟩
 replace hz := bif_ok_f hz hc15
 refine W_exit <|ex_then <|ex_then <|ex_hit ?_
 refine (nm_then ?_)
 refine W_seqJ (fun T' w' => ∃ M35 c37, Mm.ext w.heap.size noX M8 M35 ∧ St w noX M35 [.box b6 cx2 48, .box b4 cx1 48] w' ∧ T' 4 = .bool c37 ∧ sameNode_j1 c37 = some r) ?_ ?_
 have hF39 := Mm.ext.refl w.heap.size noX M8
 refine W_reg <|WL_y (Y_fa fa48_1 hT9_2) ?_
 obtain ⟨v40, ev40, hv40⟩ := (GNode.p1 (rr hcx1))
 refine WL_y (Y_ld1 v40 ts27 rfl (hS.bvB 1 rfl) ev40) <|WL_y (Y_fa fa48_1 hT9_3) ?_
 obtain ⟨v41, ev41, hv41⟩ := (GNode.p1 (rr hcx2))
 refine WL_y (Y_ld1 v41 ts27 rfl (hS.bvB 0 rfl) ev41) ?_
 obtain ⟨r44, hr43, hz⟩ := bind_ok hz
 replace hr43 := Option.some.inj hr43
 refine WL_c (O_val (vs := [v40, v41]) (v := .bool r44) cb36 (args2 rfl rfl) hS (hr43 ▸ (c_sameNumbers hS.agree hv40 hv41)) ?_)
 intro w42 hS
 refine WL_y (Y_move (.bool r44) rfl) ?_
 rcases ic hz with ⟨hc45, hz⟩ | ⟨hc45, hz⟩ <;> rw [hc45]
 refine WL_gy rfl rfl (Y_fa fa48_2 hT9_2) ?_
 have ha46 := (GNode.p2 (rr hcx1))
 refine WL_gy rfl rfl (Y_ldn ta46 rfl (hS.bvB 1 rfl) (Rep.len ha46)) <|WL_gy rfl rfl (Y_fa fa48_2 hT9_3) ?_
 have ha47 := (GNode.p2 (rr hcx2))
 refine WL_gy rfl rfl (Y_ldn ta46 rfl (hS.bvB 0 rfl) (Rep.len ha47)) <|WL_gy rfl rfl (Y_eqA rfl rfl eg46 ha46 ha47) <|WL_d 2 rfl ?_
 refine WL_nil (nm_then ?_)
 exact ⟨M8, (decide (x1.values = x2.values)), hF39, hS, rfl, hz⟩
 refine WL_d 7 rfl ?_
 refine WL_nil (nm_then ?_)
 exact ⟨M8, false, hF39, hS, rfl, hz⟩
 rintro T36 w34 ⟨M35, c37, hx38, hS, hT36_4, hz⟩
 replace hcx1 := Rep.mono hx38.1 hcx1
 replace hcx2 := Rep.mono hx38.1 hcx2
 replace hE := Mm.ext.trans hE hx38
 replace hF13 := Mm.ext.trans hF13 hx38
 rw [sameNode_j1] at hz
 cases hz
 exact W_ret (R_t1 rfl hT36_4 ⟨rfl, (St.dropB (St.dropB hS hb6) hb4).kept⟩)
def copyNode_l1 : Nat → GNode → Int → Option GNode
 | 0, _, _ => none
 | n + 1, d19, y21 =>
 (bif decide (y21 < 32) then
 (inR y21 32).bind fun _ =>
 (idxV d19.entries y21).bind fun x32 =>
 (idxV d19.entries y21).bind fun x35 =>
 (idxV d19.entries y21).bind fun x38 =>
 (app ([] : List GOp) x32.ops).bind fun l44 =>
 (app ([] : List Int) x35.first).bind fun l49 =>
 (app ([] : List Int) x38.deps).bind fun l54 =>
 (idxV d19.entries y21).bind fun x58 =>
 (setV d19.entries y21 ({ x58 with ops := l44 })).bind fun a60 =>
 (some ({ d19 with entries := a60 } : GNode)).bind fun d62 =>
 (idxV d62.entries y21).bind fun x67 =>
 (setV d62.entries y21 ({ x67 with first := l49 })).bind fun a69 =>
 (some ({ d62 with entries := a69 } : GNode)).bind fun d71 =>
 (idxV d71.entries y21).bind fun x76 =>
 (setV d71.entries y21 ({ x76 with deps := l54 })).bind fun a78 =>
 (some ({ d71 with entries := a78 } : GNode)).bind fun d80 =>
 (idxV d80.entries y21).bind fun x86 =>
 (idxV d80.entries y21).bind fun x89 =>
 (app ([] : List Int) x86.at_).bind fun l95 =>
 (app ([] : List Int) x89.values).bind fun l100 =>
 (idxV d80.entries y21).bind fun x104 =>
 (setV d80.entries y21 ({ x104 with at_ := l95 })).bind fun a106 =>
 (some ({ d80 with entries := a106 } : GNode)).bind fun d108 =>
 (idxV d108.entries y21).bind fun x113 =>
 (setV d108.entries y21 ({ x113 with values := l100 })).bind fun a115 =>
 (some ({ d108 with entries := a115 } : GNode)).bind fun d117 =>
 (copyNode_l1 n) d117 (IntKind.wrap .i64 (y21 + 1))
 else
 (some d19).bind fun d124 =>
 some d124)
def copyNodeD (fu : Nat) (x1 : GNode) : Option GNode :=
 (app ([] : List Int) x1.order).bind fun l10 =>
 (some ({ x1 with order := l10 } : GNode)).bind fun d13 =>
 copyNode_l1 fu d13 0
set_option maxRecDepth 100000 in
set_option maxHeartbeats 4000000 in
theorem copyNode_ok {M : Mm} {w : World} {cx1 : List Value} {x1 : GNode} {fu : Nat} {r : GNode} (hA : Agree M w) (hcx1 : rep M cx1 x1) (hz : copyNodeD fu x1 = some r) :
    Calls Try.prog 15 #[.agg cx1.toArray] w (GivesL M w [] (fun M' u L' => ∃ c0 uR, u = .agg c0.toArray ∧ L' = [.row uR 3 1] ∧ rep M' c0 r ∧ sl c0 192 1 = [uR])) := by
 refine calls_W Try.func15 rfl 57 rfl rfl (by kernel_rfl) fun T hT => ?_
 have hT_0 : T 0 = .agg cx1.toArray := hT 0
 clear hT
 have hE := Mm.ext.refl w.heap.size (lentX []) M
 have hS : St w (lentX []) M [] w := St.start hA
 rw [copyNodeD] at hz
 refine W_seq <|W_reg ?_
 refine WL_c (O_box (v := .agg cx1.toArray) (cs := cx1) hT_0 rfl hS ?_)
 intro b3 w2 hb3 hS
 refine WL_c (O_alloc tz48 hS ?_)
 intro b5 w4 hb5 hS
 have zb5 : rep M (Zr.zc GNode) (Zr.zd : GNode) := Zr.zr
 refine WL_nil (nm_then ?_)
 refine W_seq <|W_reg <|WL_y (Y_fa fa48_1 rfl) ?_
 obtain ⟨v6, ev6, hv6⟩ := (GNode.p1 (rr hcx1))
 refine WL_y (Y_ld1 v6 ts27 rfl (hS.bvB 1 rfl) ev6) ?_
 replace hS := hS.nilRow 3 1
 obtain ⟨l10, hr9, hz⟩ := bind_ok hz
 obtain ⟨hy9, hs9⟩ := app_some hr9
 refine WL_c (O_app (α := Int) (j := 0) tp27 hS rfl rfl rfl (repL_nil _) hv6 hy9 ?_)
 intro v9 M9 w7 hx9 hv9 hS
 rw [← hs9] at hv9
 clear hr9 hs9
 replace hcx1 := Rep.mono hx9.1 hcx1
 replace zb5 := Rep.mono hx9.1 zb5
 replace hv6 := repL.mono hx9.1 hv6
 replace hE := Mm.ext.trans hE hx9
 refine WL_y (Y_fa fa48_1 rfl) ?_
 obtain ⟨d13, hd12, hz⟩ := bind_ok hz
 refine WL_c (O_sx 2 1 hS rfl hcx1 rfl rfl (repL_rep hv9) (repL_cells hv9) rfl (GNode.u1 (rr hcx1) (Lf (GNode.p1 (rr hcx1)) (repL_rep hv9))) hd12 ?_)
 intro cs12 w11 hb12 ha12 hs12 hS
 have hp14 := hs12
 refine WL_nil (nm_then ?_)
 refine W_seq <|W_seq <|W_reg <|WL_y (Y_move (.int .i64 0) rfl) ?_
 refine WL_nil (nm_then ?_)
 refine W_block ?_
 refine W_loop (fun k23 T' w' => ∃ M16 cs18 d19 y21, Mm.ext w.heap.size (lentX []) M9 M16 ∧ St w (lentX []) M16 [.row v9 3 1, .box b5 (Zr.zc GNode) 48, .box b3 cs18 48] w' ∧ rep M16 cs18 d19 ∧ sl cs18 (0 + 192) 1 = [v9] ∧ T' 1 = .pointer (some ⟨b3, 0, none⟩) ∧ T' 2 = .pointer (some ⟨b5, 0, none⟩) ∧ T' 9 = .int .i64 y21 ∧ copyNode_l1 k23 d19 y21 = some r) fu ?_ ?_ ?_
 exact ⟨M9, cs12, d13, (0 : Int), (Mm.ext.refl _ _ _), hS, hb12, hp14, rfl, rfl, rfl, hz⟩
 rintro T' w' ⟨_, _, _, _, _, _, _, _, _, _, _, hz⟩
 rw [copyNode_l1] at hz
 cases hz
 intro k23
 rintro T17 w15 ⟨M16, cs18, d19, y21, hx25, hS, hb18, hp20, hT17_1, hT17_2, hT17_9, hz⟩
 replace zb5 := Rep.mono hx25.1 zb5
 replace hE := Mm.ext.trans hE hx25
 have hF24 := hx25
 rw [copyNode_l1] at hz
 obtain ⟨rec22, hrec22⟩ : ∃ f, f = copyNode_l1 k23 := ⟨_, rfl⟩
 rw [← hrec22] at hz
 refine W_seq <|W_reg <|WL_y (Y_lss hT17_9 rfl) ?_
 refine WL_nil (nm_then ?_)
 refine W_seq ?_
 refine W_cond rfl (fun hc26 => ?_) (fun hc26 => ?_)
 replace hz := bif_ok_t hz hc26
 refine W_skip (nm_then ?_)
 refine W_seq <|W_block <|W_seq <|W_reg <|WL_y (Y_move (.int .i64 y21) hT17_9) <|WL_y (Y_assign (.int .i64 y21) rfl) ?_
 refine WL_nil (nm_then ?_)
 refine W_seq <|W_reg <|WL_y (Y_move (.int .i64 y21) rfl) <|WL_y (Y_fa fa48_0 hT17_1) ?_
 obtain ⟨u27, hx28, hz⟩ := bind_ok hz
 obtain ⟨hx28a, hx28b⟩ := inR_some hx28
 refine WL_y (Y_ixA ia45 rfl rfl hx28a hx28b) <|WL_y (Y_assign (.pointer (some ⟨b3, 0 + 0 + Int.toNat y21 * 6, none⟩)) rfl) ?_
 refine WL_nil (nm_then ?_)
 refine W_seq <|W_drawB (Rd M16 [.box b3 cs18 48]) (inL [20, 23, 26]) mixed hS fun w29 hS => ?_
 have hG30 := Mm.ext.refl w.heap.size (lentX []) M16
 have hR31 : Rd M16 [.box b3 cs18 48] w29 := Rd.of hS hG30 (by simp)
 refine WB_y (i := 0) rfl (by kernel_rfl) rfl (Y_move (.pointer (some ⟨b3, 0 + 0 + Int.toNat y21 * 6, none⟩)) rfl) (fun _ => hR31) <|WB_y (i := 1) rfl (by kernel_rfl) rfl (Y_move (.pointer (some ⟨b3, 0 + 0 + Int.toNat y21 * 6, none⟩)) rfl) (fun _ => hR31) <|WB_y (i := 2) rfl (by kernel_rfl) rfl (Y_move (.pointer (some ⟨b3, 0 + 0 + Int.toNat y21 * 6, none⟩)) rfl) (fun _ => hR31) <|WB_y (i := 3) rfl (by kernel_rfl) rfl (Y_move (.pointer (some ⟨b3, 0 + 0 + Int.toNat y21 * 6, none⟩)) rfl) (fun _ => hR31) <|WB_y (i := 4) rfl (by kernel_rfl) rfl (Y_nil rfl) (fun _ => hR31) <|WB_y (i := 5) rfl (by kernel_rfl) rfl (Y_fa fa44_1 rfl) (fun _ => hR31) ?_
 obtain ⟨x32, hx33, hz⟩ := bind_ok hz
 obtain ⟨v34, ev34, hv34⟩ := (GEntry.p1 (vp (k := 6) rfl rfl (GNode.p0 (rr hb18)) hx33))
 refine WB_ld (i := 6) rfl (by kernel_rfl) rfl (inL_lt rfl) (by kernel_rfl) (by kernel_rfl) (Y_ld1 v34 ts22 rfl (bvR 0 rfl) ev34) hR31 <|WB_y (i := 8) rfl (by kernel_rfl) rfl (Y_move (.pointer (some ⟨b3, 0 + 0 + Int.toNat y21 * 6, none⟩)) rfl) (fun _ => hR31) <|WB_y (i := 9) rfl (by kernel_rfl) rfl (Y_nil rfl) (fun _ => hR31) <|WB_y (i := 10) rfl (by kernel_rfl) rfl (Y_fa fa44_2 rfl) (fun _ => hR31) ?_
 obtain ⟨x35, hx36, hz⟩ := bind_ok hz
 obtain ⟨v37, ev37, hv37⟩ := (GEntry.p2 (vp (k := 6) rfl rfl (GNode.p0 (rr hb18)) hx36))
 refine WB_ld (i := 11) rfl (by kernel_rfl) rfl (inL_lt rfl) (by kernel_rfl) (by kernel_rfl) (Y_ld1 v37 ts27 rfl (bvR 0 rfl) ev37) hR31 <|WB_y (i := 13) rfl (by kernel_rfl) rfl (Y_move (.pointer (some ⟨b3, 0 + 0 + Int.toNat y21 * 6, none⟩)) rfl) (fun _ => hR31) <|WB_y (i := 14) rfl (by kernel_rfl) rfl (Y_nil rfl) (fun _ => hR31) <|WB_y (i := 15) rfl (by kernel_rfl) rfl (Y_fa fa44_3 rfl) (fun _ => hR31) ?_
 obtain ⟨x38, hx39, hz⟩ := bind_ok hz
 obtain ⟨v40, ev40, hv40⟩ := (GEntry.p3 (vp (k := 6) rfl rfl (GNode.p0 (rr hb18)) hx39))
 refine WB_ld (i := 16) rfl (by kernel_rfl) rfl (inL_lt rfl) (by kernel_rfl) (by kernel_rfl) (Y_ld1 v40 ts27 rfl (bvR 0 rfl) ev40) hR31 ?_
 replace hS := hS.nilRow 78 3
 obtain ⟨l44, hr43, hz⟩ := bind_ok hz
 obtain ⟨hy43, hs43⟩ := app_some hr43
 refine WB_one (i := 7) (by kernel_rfl) rfl (O_app (α := GOp) (j := 0) tp22 hS rfl rfl rfl (repL_nil _) hv34 hy43 ?_)
 intro v43 M43 w41 hx43 hv43 hS
 rw [← hs43] at hv43
 clear hr43 hs43
 replace zb5 := Rep.mono hx43.1 zb5
 replace hb18 := Rep.mono hx43.1 hb18
 replace hv34 := repL.mono hx43.1 hv34
 replace hv37 := repL.mono hx43.1 hv37
 replace hv40 := repL.mono hx43.1 hv40
 replace hE := Mm.ext.trans hE hx43
 replace hF24 := Mm.ext.trans hF24 hx43
 replace hG30 := Mm.ext.trans hG30 hx43
 have hR45 : Rd M16 [.box b3 cs18 48] w41 := Rd.of hS hG30 (by simp)
 refine ⟨fun _ => hR45, ?_⟩
 replace hS := hS.nilRow 3 1
 obtain ⟨l49, hr48, hz⟩ := bind_ok hz
 obtain ⟨hy48, hs48⟩ := app_some hr48
 refine WB_one (i := 12) (by kernel_rfl) rfl (O_app (α := Int) (j := 0) tp27 hS rfl rfl rfl (repL_nil _) hv37 hy48 ?_)
 intro v48 M48 w46 hx48 hv48 hS
 rw [← hs48] at hv48
 clear hr48 hs48
 replace zb5 := Rep.mono hx48.1 zb5
 replace hb18 := Rep.mono hx48.1 hb18
 replace hv34 := repL.mono hx48.1 hv34
 replace hv37 := repL.mono hx48.1 hv37
 replace hv40 := repL.mono hx48.1 hv40
 replace hv43 := repL.mono hx48.1 hv43
 replace hE := Mm.ext.trans hE hx48
 replace hF24 := Mm.ext.trans hF24 hx48
 replace hG30 := Mm.ext.trans hG30 hx48
 have hR50 : Rd M16 [.box b3 cs18 48] w46 := Rd.of hS hG30 (by simp)
 refine ⟨fun _ => hR50, ?_⟩
 replace hS := hS.nilRow 3 1
 obtain ⟨l54, hr53, hz⟩ := bind_ok hz
 obtain ⟨hy53, hs53⟩ := app_some hr53
 refine WB_one (i := 17) (by kernel_rfl) rfl (O_app (α := Int) (j := 0) tp27 hS rfl rfl rfl (repL_nil _) hv40 hy53 ?_)
 intro v53 M53 w51 hx53 hv53 hS
 rw [← hs53] at hv53
 clear hr53 hs53
 replace zb5 := Rep.mono hx53.1 zb5
 replace hb18 := Rep.mono hx53.1 hb18
 replace hv34 := repL.mono hx53.1 hv34
 replace hv37 := repL.mono hx53.1 hv37
 replace hv40 := repL.mono hx53.1 hv40
 replace hv43 := repL.mono hx53.1 hv43
 replace hv48 := repL.mono hx53.1 hv48
 replace hE := Mm.ext.trans hE hx53
 replace hF24 := Mm.ext.trans hF24 hx53
 replace hG30 := Mm.ext.trans hG30 hx53
 have hR55 : Rd M16 [.box b3 cs18 48] w51 := Rd.of hS hG30 (by simp)
 refine ⟨fun _ => hR55, ?_⟩
 refine WB_y (i := 18) rfl (by kernel_rfl) rfl (Y_nil rfl) (fun _ => hR55) <|WB_y (i := 19) rfl (by kernel_rfl) rfl (Y_fa fa44_1 rfl) (fun _ => hR55) ?_
 obtain ⟨x58, hx59, hz⟩ := bind_ok hz
 obtain ⟨a60, hx61, hz⟩ := bind_ok hz
 obtain ⟨d62, hd57, hz⟩ := bind_ok hz
 have hq64 := (idxV_some hx59)
 refine WB_one (i := 20) (by kernel_rfl) rfl (O_sx 5 1 hS rfl hb18 rfl rfl (repL_rep hv43) (repL_cells hv43) rfl (GNode.u0 (rr hb18) (vu (k := 6) rfl rfl (GNode.p0 (rr hb18)) (GEntry.u1 (vp (k := 6) rfl rfl (GNode.p0 (rr hb18)) hx59) (Lf (GEntry.p1 (vp (k := 6) rfl rfl (GNode.p0 (rr hb18)) hx59)) (repL_rep hv43))) hx61)) hd57 ?_)
 intro cs57 w56 hb57 ha57 hs57 hS
 have hp63 := (ha57 (by omega)).trans hp20
 refine ⟨fun h => Bool.noConfusion (show false = true from h), ?_⟩
 refine WB_y (i := 21) rfl (by kernel_rfl) rfl (Y_nil rfl) (fun h => Bool.noConfusion (show false = true from h)) <|WB_y (i := 22) rfl (by kernel_rfl) rfl (Y_fa fa44_2 rfl) (fun h => Bool.noConfusion (show false = true from h)) ?_
 obtain ⟨x67, hx68, hz⟩ := bind_ok hz
 obtain ⟨a69, hx70, hz⟩ := bind_ok hz
 obtain ⟨d71, hd66, hz⟩ := bind_ok hz
 have hq73 := (idxV_some hx68)
 refine WB_one (i := 23) (by kernel_rfl) rfl (O_sx 5 1 hS rfl hb57 rfl rfl (repL_rep hv48) (repL_cells hv48) rfl (GNode.u0 (rr hb57) (vu (k := 6) rfl rfl (GNode.p0 (rr hb57)) (GEntry.u2 (vp (k := 6) rfl rfl (GNode.p0 (rr hb57)) hx68) (Lf (GEntry.p2 (vp (k := 6) rfl rfl (GNode.p0 (rr hb57)) hx68)) (repL_rep hv48))) hx70)) hd66 ?_)
 intro cs66 w65 hb66 ha66 hs66 hS
 have hp72 := (ha66 (by omega)).trans hp63
 refine ⟨fun h => Bool.noConfusion (show false = true from h), ?_⟩
 refine WB_y (i := 24) rfl (by kernel_rfl) rfl (Y_nil rfl) (fun h => Bool.noConfusion (show false = true from h)) <|WB_y (i := 25) rfl (by kernel_rfl) rfl (Y_fa fa44_3 rfl) (fun h => Bool.noConfusion (show false = true from h)) ?_
 obtain ⟨x76, hx77, hz⟩ := bind_ok hz
 obtain ⟨a78, hx79, hz⟩ := bind_ok hz
 obtain ⟨d80, hd75, hz⟩ := bind_ok hz
 have hq82 := (idxV_some hx77)
 refine WB_one (i := 26) (by kernel_rfl) rfl (O_sx 5 1 hS rfl hb66 rfl rfl (repL_rep hv53) (repL_cells hv53) rfl (GNode.u0 (rr hb66) (vu (k := 6) rfl rfl (GNode.p0 (rr hb66)) (GEntry.u3 (vp (k := 6) rfl rfl (GNode.p0 (rr hb66)) hx77) (Lf (GEntry.p3 (vp (k := 6) rfl rfl (GNode.p0 (rr hb66)) hx77)) (repL_rep hv53))) hx79)) hd75 ?_)
 intro cs75 w74 hb75 ha75 hs75 hS
 have hp81 := (ha75 (by omega)).trans hp72
 refine ⟨fun h => Bool.noConfusion (show false = true from h), ?_⟩
 refine WB_done (by kernel_rfl) (nm_then ?_)
 refine W_drawB (Rd M53 [.box b3 cs75 48]) (inL [14, 17]) mixed hS fun w83 hS => ?_
 have hG84 := Mm.ext.refl w.heap.size (lentX []) M53
 have hR85 : Rd M53 [.box b3 cs75 48] w83 := Rd.of hS hG84 (by simp)
 refine WB_y (i := 0) rfl (by kernel_rfl) rfl (Y_move (.pointer (some ⟨b3, 0 + 0 + Int.toNat y21 * 6, none⟩)) rfl) (fun _ => hR85) <|WB_y (i := 1) rfl (by kernel_rfl) rfl (Y_move (.pointer (some ⟨b3, 0 + 0 + Int.toNat y21 * 6, none⟩)) rfl) (fun _ => hR85) <|WB_y (i := 2) rfl (by kernel_rfl) rfl (Y_move (.pointer (some ⟨b3, 0 + 0 + Int.toNat y21 * 6, none⟩)) rfl) (fun _ => hR85) <|WB_y (i := 3) rfl (by kernel_rfl) rfl (Y_nil rfl) (fun _ => hR85) <|WB_y (i := 4) rfl (by kernel_rfl) rfl (Y_fa fa44_4 rfl) (fun _ => hR85) ?_
 obtain ⟨x86, hx87, hz⟩ := bind_ok hz
 obtain ⟨v88, ev88, hv88⟩ := (GEntry.p4 (vp (k := 6) rfl rfl (GNode.p0 (rr hb75)) hx87))
 refine WB_ld (i := 5) rfl (by kernel_rfl) rfl (inL_lt rfl) (by kernel_rfl) (by kernel_rfl) (Y_ld1 v88 ts27 rfl (bvR 0 rfl) ev88) hR85 <|WB_y (i := 7) rfl (by kernel_rfl) rfl (Y_move (.pointer (some ⟨b3, 0 + 0 + Int.toNat y21 * 6, none⟩)) rfl) (fun _ => hR85) <|WB_y (i := 8) rfl (by kernel_rfl) rfl (Y_nil rfl) (fun _ => hR85) <|WB_y (i := 9) rfl (by kernel_rfl) rfl (Y_fa fa44_5 rfl) (fun _ => hR85) ?_
 obtain ⟨x89, hx90, hz⟩ := bind_ok hz
 obtain ⟨v91, ev91, hv91⟩ := (GEntry.p5 (vp (k := 6) rfl rfl (GNode.p0 (rr hb75)) hx90))
 refine WB_ld (i := 10) rfl (by kernel_rfl) rfl (inL_lt rfl) (by kernel_rfl) (by kernel_rfl) (Y_ld1 v91 ts27 rfl (bvR 0 rfl) ev91) hR85 ?_
 replace hS := hS.nilRow 3 1
 obtain ⟨l95, hr94, hz⟩ := bind_ok hz
 obtain ⟨hy94, hs94⟩ := app_some hr94
 refine WB_one (i := 6) (by kernel_rfl) rfl (O_app (α := Int) (j := 0) tp27 hS rfl rfl rfl (repL_nil _) hv88 hy94 ?_)
 intro v94 M94 w92 hx94 hv94 hS
 rw [← hs94] at hv94
 clear hr94 hs94
 replace zb5 := Rep.mono hx94.1 zb5
 replace hb75 := Rep.mono hx94.1 hb75
 replace hv88 := repL.mono hx94.1 hv88
 replace hv91 := repL.mono hx94.1 hv91
 replace hE := Mm.ext.trans hE hx94
 replace hF24 := Mm.ext.trans hF24 hx94
 replace hG84 := Mm.ext.trans hG84 hx94
 have hR96 : Rd M53 [.box b3 cs75 48] w92 := Rd.of hS hG84 (by simp)
 refine ⟨fun _ => hR96, ?_⟩
 replace hS := hS.nilRow 3 1
 obtain ⟨l100, hr99, hz⟩ := bind_ok hz
 obtain ⟨hy99, hs99⟩ := app_some hr99
 refine WB_one (i := 11) (by kernel_rfl) rfl (O_app (α := Int) (j := 0) tp27 hS rfl rfl rfl (repL_nil _) hv91 hy99 ?_)
 intro v99 M99 w97 hx99 hv99 hS
 rw [← hs99] at hv99
 clear hr99 hs99
 replace zb5 := Rep.mono hx99.1 zb5
 replace hb75 := Rep.mono hx99.1 hb75
 replace hv88 := repL.mono hx99.1 hv88
 replace hv91 := repL.mono hx99.1 hv91
 replace hv94 := repL.mono hx99.1 hv94
 replace hE := Mm.ext.trans hE hx99
 replace hF24 := Mm.ext.trans hF24 hx99
 replace hG84 := Mm.ext.trans hG84 hx99
 have hR101 : Rd M53 [.box b3 cs75 48] w97 := Rd.of hS hG84 (by simp)
 refine ⟨fun _ => hR101, ?_⟩
 refine WB_y (i := 12) rfl (by kernel_rfl) rfl (Y_nil rfl) (fun _ => hR101) <|WB_y (i := 13) rfl (by kernel_rfl) rfl (Y_fa fa44_4 rfl) (fun _ => hR101) ?_
 obtain ⟨x104, hx105, hz⟩ := bind_ok hz
 obtain ⟨a106, hx107, hz⟩ := bind_ok hz
 obtain ⟨d108, hd103, hz⟩ := bind_ok hz
 have hq110 := (idxV_some hx105)
 refine WB_one (i := 14) (by kernel_rfl) rfl (O_sx 7 1 hS rfl hb75 rfl rfl (repL_rep hv94) (repL_cells hv94) rfl (GNode.u0 (rr hb75) (vu (k := 6) rfl rfl (GNode.p0 (rr hb75)) (GEntry.u4 (vp (k := 6) rfl rfl (GNode.p0 (rr hb75)) hx105) (Lf (GEntry.p4 (vp (k := 6) rfl rfl (GNode.p0 (rr hb75)) hx105)) (repL_rep hv94))) hx107)) hd103 ?_)
 intro cs103 w102 hb103 ha103 hs103 hS
 have hp109 := (ha103 (by omega)).trans hp81
 refine ⟨fun h => Bool.noConfusion (show false = true from h), ?_⟩
 refine WB_y (i := 15) rfl (by kernel_rfl) rfl (Y_nil rfl) (fun h => Bool.noConfusion (show false = true from h)) <|WB_y (i := 16) rfl (by kernel_rfl) rfl (Y_fa fa44_5 rfl) (fun h => Bool.noConfusion (show false = true from h)) ?_
 obtain ⟨x113, hx114, hz⟩ := bind_ok hz
 obtain ⟨a115, hx116, hz⟩ := bind_ok hz
 obtain ⟨d117, hd112, hz⟩ := bind_ok hz
 have hq119 := (idxV_some hx114)
 refine WB_one (i := 17) (by kernel_rfl) rfl (O_sx 7 1 hS rfl hb103 rfl rfl (repL_rep hv99) (repL_cells hv99) rfl (GNode.u0 (rr hb103) (vu (k := 6) rfl rfl (GNode.p0 (rr hb103)) (GEntry.u5 (vp (k := 6) rfl rfl (GNode.p0 (rr hb103)) hx114) (Lf (GEntry.p5 (vp (k := 6) rfl rfl (GNode.p0 (rr hb103)) hx114)) (repL_rep hv99))) hx116)) hd112 ?_)
 intro cs112 w111 hb112 ha112 hs112 hS
 have hp118 := (ha112 (by omega)).trans hp109
 refine ⟨fun h => Bool.noConfusion (show false = true from h), ?_⟩
 refine WB_done (by kernel_rfl) (nm_blk ?_)
 refine (nm_then ?_)
 refine W_reg <|WL_y (Y_add hT17_9 rfl) <|WL_y (Y_move (.int .i64 (IntKind.wrap .i64 (y21 + 1))) rfl) ?_
 refine WL_nil (nm_then ?_)
 exact ⟨M99, cs112, d117, (IntKind.wrap .i64 (y21 + 1)), hF24, (St.drop (St.drop (St.drop (St.drop (St.drop hS))))), hb112, hp118, hT17_1, hT17_2, rfl, (by rw [← hrec22]; exact hz)⟩
 replace hz := bif_ok_f hz hc26
 refine W_exit <|ex_then <|ex_then <|ex_hit ?_
 refine (nm_then ?_)
 refine W_seq <|W_reg ?_
 have ha120 := (rr hb18)
 have hp121 : sl (sl cs18 (0) 201) 192 1 = [v9] := (sl_sub (by decide)).trans hp20
 refine WL_y (Y_ldn ta48 hT17_1 (hS.bvB 2 rfl) (Rep.len ha120)) ?_
 obtain ⟨d124, hd123, hz⟩ := bind_ok hz
 refine WL_c (O_sx 1 201 hS rfl zb5 hT17_2 rfl ha120 rfl rfl (Lf (rr zb5) ha120) hd123 ?_)
 intro cs123 w122 hb123 ha123 hs123 hS
 have hp125 : sl cs123 (0 + 192) 1 = [v9] := sl_in hs123 hp121 (by decide)
 refine WL_nil (nm_then ?_)
 cases hz
 exact W_ret (R_c (j := 1) rfl hT17_2 (by rw [Rep.len hb123]; exact ta48) hS rfl ⟨_, M16, _, rfl, hE, (hS.sel (H' := [.row v9 3 1]) [0] (by decide) rfl), cs123, v9, rfl, rfl, hb123, hp125⟩)
def isNode_j1 (y8 : Int) (rec9 : Int → Option Bool) : Option Bool :=
 rec9 (IntKind.wrap .i64 (y8 + 1))
def isNode_j2 (y32 : Int) (rec33 : Int → Int → Option Bool) (y41 : Int) : Option Bool :=
 rec33 y41 (IntKind.wrap .i64 (y32 + 1))
def isNode_j6 (y73 : Int) (rec74 : Int → Int → Option Bool) (y82 : Int) : Option Bool :=
 rec74 y82 (IntKind.wrap .i64 (y73 + 1))
def isNode_j7 (y73 : Int) (rec74 : Int → Int → Option Bool) (x86 : Int) : Option Bool :=
 isNode_j6 y73 rec74 x86
def isNode_j8 (y73 : Int) (rec74 : Int → Int → Option Bool) (x86 : Int) (c95 : Bool) : Option Bool :=
 (bif c95 then
 some false
 else
 isNode_j7 y73 rec74 x86)
def isNode_l3 (y8 : Int) (rec9 : Int → Option Bool) (d25 : GEntry) : Nat → Int → Int → Option Bool
 | 0, _, _ => none
 | n + 1, y72, y73 =>
 (bif decide (y73 < (d25.at_.length : Int)) then
 (idx d25.at_ y73).bind fun x86 =>
 (bif decide (x86 ≤ y72) then
 isNode_j8 y73 (isNode_l3 y8 rec9 d25 n) x86 true
 else
 isNode_j8 y73 (isNode_l3 y8 rec9 d25 n) x86 (decide (x86 ≥ (d25.ops.length : Int))))
 else
 isNode_j1 y8 rec9)
def isNode_j5 (fu : Nat) (y8 : Int) (rec9 : Int → Option Bool) (d25 : GEntry) : Option Bool :=
 isNode_l3 y8 rec9 d25 fu (-1) 0
def isNode_j9 (fu : Nat) (y8 : Int) (rec9 : Int → Option Bool) (d25 : GEntry) (c106 : Bool) : Option Bool :=
 (bif c106 then
 some false
 else
 isNode_j5 fu y8 rec9 d25)
def isNode_j4 (fu : Nat) (y8 : Int) (rec9 : Int → Option Bool) (d25 : GEntry) : Option Bool :=
 (bif d25.state == 1 then
 (bif decide ((d25.deps.length : Int) > 0) then
 isNode_j9 fu y8 rec9 d25 true
 else
 (bif decide (d25.state < 3) then
 isNode_j9 fu y8 rec9 d25 (decide ((d25.at_.length : Int) > 0))
 else
 isNode_j9 fu y8 rec9 d25 false))
 else
 (bif decide (d25.state < 3) then
 isNode_j9 fu y8 rec9 d25 (decide ((d25.at_.length : Int) > 0))
 else
 isNode_j9 fu y8 rec9 d25 false))
def isNode_j10 (fu : Nat) (y8 : Int) (rec9 : Int → Option Bool) (d25 : GEntry) (c124 : Bool) : Option Bool :=
 (bif c124 then
 some false
 else
 isNode_j4 fu y8 rec9 d25)
def isNode_j3 (fu : Nat) (y8 : Int) (rec9 : Int → Option Bool) (d25 : GEntry) : Option Bool :=
 (bif d25.state == 0 then
 (some ({ state := Zr.zd, ops := Zr.zd, first := Zr.zd, deps := Zr.zd, at_ := Zr.zd, values := Zr.zd } : GEntry)).bind fun d54 =>
 (sameEntryD fu d25 d54).bind fun r57 =>
 (bif !r57 then
 some false
 else
 isNode_j1 y8 rec9)
 else
 (some (goodOpsZ d25.ops)).bind fun r131 =>
 (bif !r131 then
 isNode_j10 fu y8 rec9 d25 true
 else
 (some (risingZ d25.first)).bind fun r136 =>
 (bif !r136 then
 isNode_j10 fu y8 rec9 d25 true
 else
 (some (risingZ d25.deps)).bind fun r141 =>
 (bif !r141 then
 isNode_j10 fu y8 rec9 d25 true
 else
 (some (hasZ d25.first y8)).bind fun r146 =>
 (bif r146 then
 isNode_j10 fu y8 rec9 d25 true
 else
 (some (hasZ d25.deps y8)).bind fun r151 =>
 (bif r151 then
 isNode_j10 fu y8 rec9 d25 true
 else
 isNode_j10 fu y8 rec9 d25 ((d25.at_.length : Int) != (d25.values.length : Int))))))))
def isNode_j11 (fu : Nat) (y8 : Int) (rec9 : Int → Option Bool) (d25 : GEntry) (c161 : Bool) : Option Bool :=
 (bif c161 then
 some false
 else
 isNode_j3 fu y8 rec9 d25)
def isNode_l2 (fu : Nat) (x1 : GNode) (y8 : Int) (rec9 : Int → Option Bool) (d25 : GEntry) : Nat → Int → Int → Option Bool
 | 0, _, _ => none
 | n + 1, y31, y32 =>
 (bif decide (y32 < (x1.order.length : Int)) then
 (idx x1.order y32).bind fun x45 =>
 (bif x45 == y8 then
 isNode_j2 y32 (isNode_l2 fu x1 y8 rec9 d25 n) (IntKind.wrap .i64 (y31 + 1))
 else
 isNode_j2 y32 (isNode_l2 fu x1 y8 rec9 d25 n) y31)
 else
 (bif decide (d25.state < 0) then
 isNode_j11 fu y8 rec9 d25 true
 else
 (bif decide (d25.state > 3) then
 isNode_j11 fu y8 rec9 d25 true
 else
 (bif d25.state == 3 then
 (bif y31 != 1 then
 isNode_j11 fu y8 rec9 d25 true
 else
 (bif d25.state != 3 then
 isNode_j11 fu y8 rec9 d25 (y31 != 0)
 else
 isNode_j11 fu y8 rec9 d25 false))
 else
 (bif d25.state != 3 then
 isNode_j11 fu y8 rec9 d25 (y31 != 0)
 else
 isNode_j11 fu y8 rec9 d25 false)))))
def isNode_l4 (x1 : GNode) : Nat → Int → Option Bool
 | 0, _ => none
 | n + 1, y176 =>
 (bif decide (y176 < (x1.order.length : Int)) then
 (idx x1.order y176).bind fun x183 =>
 (some (decide (0 ≤ x183 ∧ x183 < 32))).bind fun r186 =>
 (bif !r186 then
 some false
 else
 (isNode_l4 x1 n) (IntKind.wrap .i64 (y176 + 1)))
 else
 some true)
def isNode_l1 (fu : Nat) (x1 : GNode) : Nat → Int → Option Bool
 | 0, _ => none
 | n + 1, y8 =>
 (bif decide (y8 < 32) then
 (idxV x1.entries y8).bind fun x19 =>
 (some x19).bind fun d25 =>
 isNode_l2 fu x1 y8 (isNode_l1 fu x1 n) d25 fu 0 0
 else
 isNode_l4 x1 fu 0)
def isNodeD (fu : Nat) (x1 : GNode) : Option Bool :=
 isNode_l1 fu x1 fu 0
set_option maxRecDepth 100000 in
set_option maxHeartbeats 4000000 in
theorem isNode_ok {M : Mm} {w : World} {cx1 : List Value} {x1 : GNode} {fu : Nat} {r : Bool} (hA : Agree M w) (hcx1 : rep M cx1 x1) (hz : isNodeD fu x1 = some r) :
    Calls Try.prog 22 #[.agg cx1.toArray] w (GivesV w (.bool r)) := by
 refine calls_W Try.func22 rfl 153 rfl rfl (by kernel_rfl) fun T hT => ?_
 have hT_0 : T 0 = .agg cx1.toArray := hT 0
 clear hT
 have hE := Mm.ext.refl w.heap.size noX M
 have hS : St w noX M [] w := St.start hA
 rw [isNodeD] at hz
 refine W_seq <|W_reg ?_
 refine WL_c (O_box (v := .agg cx1.toArray) (cs := cx1) hT_0 rfl hS ?_)
 intro b3 w2 hb3 hS
 refine WL_y (Y_assign (.bool false) rfl) ?_
 refine WL_nil (nm_then ?_)
 refine W_seq <|W_seq <|W_reg <|WL_y (Y_fa fa48_0 rfl) ?_
 have ha4 := (GNode.p0 (rr hcx1))
 refine WL_y (Y_ldn ta45 rfl (hS.bvB 0 rfl) (Rep.len ha4)) <|WL_y (Y_move (.int .i64 0) rfl) ?_
 refine WL_nil (nm_then ?_)
 refine W_block ?_
 refine W_loop (fun k10 T' w' => ∃ M6 y8, Mm.ext w.heap.size noX M M6 ∧ St w noX M6 [.box b3 cx1 48] w' ∧ T' 1 = .pointer (some ⟨b3, 0, none⟩) ∧ T' 14 = .agg (sl cx1 (0 + 0) 192).toArray ∧ T' 15 = .int .i64 y8 ∧ isNode_l1 fu x1 k10 y8 = some r) fu ?_ ?_ ?_
 exact ⟨M, (0 : Int), (Mm.ext.refl _ _ _), hS, rfl, rfl, rfl, hz⟩
 rintro T' w' ⟨_, _, _, _, _, _, _, hz⟩
 rw [isNode_l1] at hz
 cases hz
 intro k10
 rintro T7 w5 ⟨M6, y8, hx12, hS, hT7_1, hT7_14, hT7_15, hz⟩
 replace hcx1 := Rep.mono hx12.1 hcx1
 replace ha4 := Rep.mono hx12.1 ha4
 replace hE := Mm.ext.trans hE hx12
 have hF11 := hx12
 rw [isNode_l1] at hz
 obtain ⟨rec9, hrec9⟩ : ∃ f, f = isNode_l1 fu x1 k10 := ⟨_, rfl⟩
 rw [← hrec9] at hz
 refine W_seq <|W_reg <|WL_y (Y_lss hT7_15 rfl) ?_
 refine WL_nil (nm_then ?_)
 refine W_seq ?_
 refine W_cond rfl (fun hc13 => ?_) (fun hc13 => ?_)
 replace hz := bif_ok_t hz hc13
 refine W_skip (nm_then ?_)
 refine W_seqJ (fun T' w' => ∃ M15, Mm.ext w.heap.size noX M6 M15 ∧ St w noX M15 [.box b3 cx1 48] w' ∧ T' 1 = .pointer (some ⟨b3, 0, none⟩) ∧ T' 14 = .agg (sl cx1 (0 + 0) 192).toArray ∧ T' 15 = .int .i64 y8 ∧ isNode_j1 y8 rec9 = some r) ?_ ?_
 have hF18 := Mm.ext.refl w.heap.size noX M6
 refine W_block <|W_seq <|W_reg <|WL_y (Y_move (.int .i64 y8) hT7_15) ?_
 obtain ⟨x19, hx20, hz⟩ := bind_ok hz
 obtain ⟨hx20a, hx20b, hx20⟩ := repV_at ha4 hx20
 replace hx20 : rep _ (sl (sl cx1 (0 + 0) 192) (Int.toNat y8 * 6) 6) x19 := hx20
 refine WL_y (Y_ixVn iv45 hT7_14 hT7_15 hx20a hx20b) ?_
 refine WL_c (O_alloc tz44 hS ?_)
 intro b22 w21 hb22 hS
 have zb22 : rep M6 (Zr.zc GEntry) (Zr.zd : GEntry) := Zr.zr
 refine WL_y (Y_assign (.int .i64 y8) rfl) ?_
 obtain ⟨d25, hd24, hz⟩ := bind_ok hz
 refine WL_c (O_sx 0 6 hS rfl zb22 rfl rfl hx20 rfl rfl (Lf (rr zb22) hx20) hd24 ?_)
 intro cs24 w23 hb24 ha24 hs24 hS
 refine WL_nil (nm_then ?_)
 refine W_seq <|W_reg <|WL_y (Y_assign (.int .i64 0) rfl) ?_
 refine WL_nil (nm_then ?_)
 refine W_seq <|W_seq <|W_reg <|WL_y (Y_fa fa48_1 hT7_1) ?_
 obtain ⟨v26, ev26, hv26⟩ := (GNode.p1 (rr hcx1))
 refine WL_y (Y_ld1 v26 ts27 rfl (hS.bvB 1 rfl) ev26) ?_
 obtain ⟨a27, c27, hv27, _⟩ := repL_shape hv26
 refine WL_y (Y_lenL Try.underlying27 (tr2 hv27 rfl)) <|WL_y (Y_move (.int .i64 0) rfl) ?_
 refine WL_nil (nm_then ?_)
 refine W_block ?_
 refine W_loop (fun k34 T' w' => ∃ M29 y31 y32, Mm.ext w.heap.size noX M6 M29 ∧ St w noX M29 [.box b22 cs24 44, .box b3 cx1 48] w' ∧ T' 1 = .pointer (some ⟨b3, 0, none⟩) ∧ T' 3 = .int .i64 y8 ∧ T' 4 = .pointer (some ⟨b22, 0, none⟩) ∧ T' 5 = .int .i64 y31 ∧ T' 14 = .agg (sl cx1 (0 + 0) 192).toArray ∧ T' 15 = .int .i64 y8 ∧ T' 20 = v26 ∧ T' 21 = .int .i64 (x1.order.length : Int) ∧ T' 22 = .int .i64 y32 ∧ isNode_l2 fu x1 y8 rec9 d25 k34 y31 y32 = some r) fu ?_ ?_ ?_
 exact ⟨M6, (0 : Int), (0 : Int), (Mm.ext.refl _ _ _), hS, hT7_1, rfl, rfl, rfl, hT7_14, hT7_15, rfl, rfl, rfl, hz⟩
 rintro T' w' ⟨_, _, _, _, _, _, _, _, _, _, _, _, _, _, hz⟩
 rw [isNode_l2] at hz
 cases hz
 intro k34
 rintro T30 w28 ⟨M29, y31, y32, hx36, hS, hT30_1, hT30_3, hT30_4, hT30_5, hT30_14, hT30_15, hT30_20, hT30_21, hT30_22, hz⟩
 replace hcx1 := Rep.mono hx36.1 hcx1
 replace ha4 := Rep.mono hx36.1 ha4
 replace hb24 := Rep.mono hx36.1 hb24
 replace hv26 := repL.mono hx36.1 hv26
 replace hE := Mm.ext.trans hE hx36
 replace hF11 := Mm.ext.trans hF11 hx36
 replace hF18 := Mm.ext.trans hF18 hx36
 have hF35 := hx36
 rw [isNode_l2] at hz
 obtain ⟨rec33, hrec33⟩ : ∃ f, f = isNode_l2 fu x1 y8 rec9 d25 k34 := ⟨_, rfl⟩
 rw [← hrec33] at hz
 refine W_seq <|W_reg <|WL_y (Y_lss hT30_22 hT30_21) ?_
 refine WL_nil (nm_then ?_)
 refine W_seq ?_
 refine W_cond rfl (fun hc37 => ?_) (fun hc37 => ?_)
 replace hz := bif_ok_t hz hc37
 refine W_skip (nm_then ?_)
 refine W_seqJ (fun T' w' => ∃ M39 y41, Mm.ext w.heap.size noX M29 M39 ∧ St w noX M39 [.box b22 cs24 44, .box b3 cx1 48] w' ∧ T' 1 = .pointer (some ⟨b3, 0, none⟩) ∧ T' 3 = .int .i64 y8 ∧ T' 4 = .pointer (some ⟨b22, 0, none⟩) ∧ T' 5 = .int .i64 y41 ∧ T' 14 = .agg (sl cx1 (0 + 0) 192).toArray ∧ T' 15 = .int .i64 y8 ∧ T' 20 = v26 ∧ T' 21 = .int .i64 (x1.order.length : Int) ∧ T' 22 = .int .i64 y32 ∧ isNode_j2 y32 rec33 y41 = some r) ?_ ?_
 have hF43 := Mm.ext.refl w.heap.size noX M29
 refine W_block <|W_seq <|W_reg ?_
 obtain ⟨x45, hx44, hz⟩ := bind_ok hz
 obtain ⟨b44, o44, c44, p44, hv44, hi44, hj44, hM44, hr44⟩ := repL_at hv26 hx44
 replace hr44 : rep _ (sl p44 (o44 + Int.toNat y32 * 1) 1) x45 := hr44
 refine WL_y (Y_ixL il27 hT30_20 hv44 hT30_22 hi44 hj44) <|WL_y (Y_ld1 (.int .i64 x45) ts3 rfl (hS.bvM hM44) hr44) <|WL_y (Y_assign (.int .i64 x45) rfl) ?_
 refine WL_nil (nm_then ?_)
 refine W_seq <|W_reg <|WL_y (Y_move (.int .i64 x45) rfl) <|WL_y (Y_move (.int .i64 y8) hT30_3) <|WL_y (Y_eql rfl rfl) ?_
 refine WL_nil (nm_then ?_)
 refine W_cond rfl (fun hc46 => ?_) (fun hc46 => ?_)
 replace hz := bif_ok_t hz hc46
 refine W_reg <|WL_y (Y_move (.int .i64 y31) hT30_5) <|WL_y (Y_add rfl rfl) <|WL_y (Y_assign (.int .i64 (IntKind.wrap .i64 (y31 + 1))) rfl) ?_
 refine WL_nil (nm_blk ?_)
 refine (nm_then ?_)
 exact ⟨M29, (IntKind.wrap .i64 (y31 + 1)), hF43, hS, hT30_1, hT30_3, hT30_4, rfl, hT30_14, hT30_15, hT30_20, hT30_21, hT30_22, hz⟩
 replace hz := bif_ok_f hz hc46
 refine W_skip (nm_blk ?_)
 refine (nm_then ?_)
 exact ⟨M29, y31, hF43, hS, hT30_1, hT30_3, hT30_4, hT30_5, hT30_14, hT30_15, hT30_20, hT30_21, hT30_22, hz⟩
 rintro T40 w38 ⟨M39, y41, hx42, hS, hT40_1, hT40_3, hT40_4, hT40_5, hT40_14, hT40_15, hT40_20, hT40_21, hT40_22, hz⟩
 replace hcx1 := Rep.mono hx42.1 hcx1
 replace ha4 := Rep.mono hx42.1 ha4
 replace hb24 := Rep.mono hx42.1 hb24
 replace hv26 := repL.mono hx42.1 hv26
 replace hE := Mm.ext.trans hE hx42
 replace hF11 := Mm.ext.trans hF11 hx42
 replace hF18 := Mm.ext.trans hF18 hx42
 replace hF35 := Mm.ext.trans hF35 hx42
 rw [isNode_j2] at hz
 refine W_reg <|WL_y (Y_add hT40_22 rfl) <|WL_y (Y_move (.int .i64 (IntKind.wrap .i64 (y32 + 1))) rfl) ?_
 refine WL_nil (nm_then ?_)
 exact ⟨M39, y41, (IntKind.wrap .i64 (y32 + 1)), hF35, hS, hT40_1, hT40_3, hT40_4, hT40_5, hT40_14, hT40_15, hT40_20, hT40_21, rfl, (by rw [← hrec33]; exact hz)⟩
 replace hz := bif_ok_f hz hc37
 refine W_exit <|ex_then <|ex_then <|ex_hit ?_
 refine (nm_then ?_)
 refine W_seqJ (fun T' w' => ∃ M48, Mm.ext w.heap.size noX M29 M48 ∧ St w noX M48 [.box b22 cs24 44, .box b3 cx1 48] w' ∧ T' 1 = .pointer (some ⟨b3, 0, none⟩) ∧ T' 3 = .int .i64 y8 ∧ T' 4 = .pointer (some ⟨b22, 0, none⟩) ∧ T' 14 = .agg (sl cx1 (0 + 0) 192).toArray ∧ T' 15 = .int .i64 y8 ∧ isNode_j3 fu y8 rec9 d25 = some r) ?_ ?_
 have hF157 := Mm.ext.refl w.heap.size noX M29
 refine W_seqJ (fun T' w' => ∃ M159 c161, Mm.ext w.heap.size noX M29 M159 ∧ St w noX M159 [.box b22 cs24 44, .box b3 cx1 48] w' ∧ T' 1 = .pointer (some ⟨b3, 0, none⟩) ∧ T' 3 = .int .i64 y8 ∧ T' 4 = .pointer (some ⟨b22, 0, none⟩) ∧ T' 14 = .agg (sl cx1 (0 + 0) 192).toArray ∧ T' 15 = .int .i64 y8 ∧ T' 57 = .bool c161 ∧ isNode_j11 fu y8 rec9 d25 c161 = some r) ?_ ?_
 have hF164 := Mm.ext.refl w.heap.size noX M29
 refine W_reg <|WL_y (Y_fa fa44_0 hT30_4) <|WL_y (Y_ld1 (.int .i64 d25.state) ts3 rfl (hS.bvB 0 rfl) (GEntry.p0 (rr hb24))) <|WL_y (Y_lss rfl rfl) <|WL_y (Y_move (.bool (decide (d25.state < 0))) rfl) ?_
 rcases ic hz with ⟨hc165, hz⟩ | ⟨hc165, hz⟩ <;> rw [hc165]
 refine WL_d 22 rfl ?_
 refine WL_nil (nm_then ?_)
 exact ⟨M29, true, hF164, hS, hT30_1, hT30_3, hT30_4, hT30_14, hT30_15, rfl, hz⟩
 refine WL_gy rfl rfl (Y_fa fa44_0 hT30_4) <|WL_gy rfl rfl (Y_ld1 (.int .i64 d25.state) ts3 rfl (hS.bvB 0 rfl) (GEntry.p0 (rr hb24))) <|WL_gy rfl rfl (Y_gtr rfl rfl) <|WL_d 2 rfl ?_
 rcases ic hz with ⟨hc166, hz⟩ | ⟨hc166, hz⟩ <;> rw [hc166]
 refine WL_d 17 rfl ?_
 refine WL_nil (nm_then ?_)
 exact ⟨M29, true, hF164, hS, hT30_1, hT30_3, hT30_4, hT30_14, hT30_15, rfl, hz⟩
 refine WL_gy rfl rfl (Y_fa fa44_0 hT30_4) <|WL_gy rfl rfl (Y_ld1 (.int .i64 d25.state) ts3 rfl (hS.bvB 0 rfl) (GEntry.p0 (rr hb24))) <|WL_gy rfl rfl (Y_eql rfl rfl) <|WL_gy rfl rfl (Y_move (.bool (d25.state == 3)) rfl) ?_
 rcases ic hz with ⟨hc167, hz⟩ | ⟨hc167, hz⟩ <;> rw [hc167]
 refine WL_gy rfl rfl (Y_move (.int .i64 y31) hT30_5) <|WL_gy rfl rfl (Y_neq rfl rfl) <|WL_d 3 rfl ?_
 rcases ic hz with ⟨hc168, hz⟩ | ⟨hc168, hz⟩ <;> rw [hc168]
 refine WL_d 8 rfl ?_
 refine WL_nil (nm_then ?_)
 exact ⟨M29, true, hF164, hS, hT30_1, hT30_3, hT30_4, hT30_14, hT30_15, rfl, hz⟩
 refine WL_gy rfl rfl (Y_fa fa44_0 hT30_4) <|WL_gy rfl rfl (Y_ld1 (.int .i64 d25.state) ts3 rfl (hS.bvB 0 rfl) (GEntry.p0 (rr hb24))) <|WL_gy rfl rfl (Y_neq rfl rfl) <|WL_gy rfl rfl (Y_move (.bool (d25.state != 3)) rfl) ?_
 rcases ic hz with ⟨hc169, hz⟩ | ⟨hc169, hz⟩ <;> rw [hc169]
 refine WL_gy rfl rfl (Y_move (.int .i64 y31) hT30_5) <|WL_gy rfl rfl (Y_neq rfl rfl) <|WL_d 2 rfl ?_
 refine WL_nil (nm_then ?_)
 exact ⟨M29, (y31 != 0), hF164, hS, hT30_1, hT30_3, hT30_4, hT30_14, hT30_15, rfl, hz⟩
 refine WL_d 4 rfl ?_
 refine WL_nil (nm_then ?_)
 exact ⟨M29, false, hF164, hS, hT30_1, hT30_3, hT30_4, hT30_14, hT30_15, rfl, hz⟩
 refine WL_d 5 rfl <|WL_gy rfl rfl (Y_fa fa44_0 hT30_4) <|WL_gy rfl rfl (Y_ld1 (.int .i64 d25.state) ts3 rfl (hS.bvB 0 rfl) (GEntry.p0 (rr hb24))) <|WL_gy rfl rfl (Y_neq rfl rfl) <|WL_gy rfl rfl (Y_move (.bool (d25.state != 3)) rfl) ?_
 rcases ic hz with ⟨hc170, hz⟩ | ⟨hc170, hz⟩ <;> rw [hc170]
 refine WL_gy rfl rfl (Y_move (.int .i64 y31) hT30_5) <|WL_gy rfl rfl (Y_neq rfl rfl) <|WL_d 2 rfl ?_
 refine WL_nil (nm_then ?_)
 exact ⟨M29, (y31 != 0), hF164, hS, hT30_1, hT30_3, hT30_4, hT30_14, hT30_15, rfl, hz⟩
 refine WL_d 4 rfl ?_
 refine WL_nil (nm_then ?_)
 exact ⟨M29, false, hF164, hS, hT30_1, hT30_3, hT30_4, hT30_14, hT30_15, rfl, hz⟩
 rintro T160 w158 ⟨M159, c161, hx162, hS, hT160_1, hT160_3, hT160_4, hT160_14, hT160_15, hT160_57, hz⟩
 replace hcx1 := Rep.mono hx162.1 hcx1
 replace ha4 := Rep.mono hx162.1 ha4
 replace hb24 := Rep.mono hx162.1 hb24
 replace hE := Mm.ext.trans hE hx162
 replace hF11 := Mm.ext.trans hF11 hx162
 replace hF18 := Mm.ext.trans hF18 hx162
 replace hF35 := Mm.ext.trans hF35 hx162
 replace hF157 := Mm.ext.trans hF157 hx162
 rw [isNode_j11] at hz
 refine W_cond hT160_57 (fun hc163 => ?_) (fun hc163 => ?_)
 replace hz := bif_ok_t hz hc163
 refine W_seq <|W_reg <|WL_y (Y_assign (.bool false) rfl) ?_
 refine WL_nil (nm_then ?_)
 cases hz
 exact W_ret (rt_then (rt_blk (rt_then (rt_then (rt_blk (rt_then (R_t1 rfl rfl ⟨rfl, (St.dropB (St.dropB hS hb22) hb3).kept⟩)))))))
 replace hz := bif_ok_f hz hc163
 refine W_skip (nm_then ?_)
 exact ⟨M159, hF157, hS, hT160_1, hT160_3, hT160_4, hT160_14, hT160_15, hz⟩
 rintro T49 w47 ⟨M48, hx50, hS, hT49_1, hT49_3, hT49_4, hT49_14, hT49_15, hz⟩
 replace hcx1 := Rep.mono hx50.1 hcx1
 replace ha4 := Rep.mono hx50.1 ha4
 replace hb24 := Rep.mono hx50.1 hb24
 replace hE := Mm.ext.trans hE hx50
 replace hF11 := Mm.ext.trans hF11 hx50
 replace hF18 := Mm.ext.trans hF18 hx50
 replace hF35 := Mm.ext.trans hF35 hx50
 rw [isNode_j3] at hz
 refine W_seq <|W_seq <|W_reg <|WL_y (Y_fa fa44_0 hT49_4) <|WL_y (Y_ld1 (.int .i64 d25.state) ts3 rfl (hS.bvB 0 rfl) (GEntry.p0 (rr hb24))) <|WL_y (Y_eql rfl rfl) ?_
 refine WL_nil (nm_then ?_)
 refine W_cond rfl (fun hc51 => ?_) (fun hc51 => ?_)
 replace hz := bif_ok_t hz hc51
 refine W_seq <|W_seq <|W_reg ?_
 have ha52 := (rr hb24)
 refine WL_y (Y_ldn ta44 hT49_4 (hS.bvB 0 rfl) (Rep.len ha52)) ?_
 obtain ⟨d54, hd53, hz⟩ := bind_ok hz
 obtain ⟨cs53, hf53, ha53⟩ : ∃ cs, fillZ (([(0, 1), (1, 1), (2, 1), (3, 1), (4, 1), (5, 1)] : List (Nat × Nat))[·]?) (Zr.zc GEntry) [] = some cs ∧ rep M48 cs d54 := ⟨_, fz_nil, rep_eq (x := ({ state := Zr.zd, ops := Zr.zd, first := Zr.zd, deps := Zr.zd, at_ := Zr.zd, values := Zr.zd } : GEntry)) (Zr.zr : rep M48 (Zr.zc GEntry) (Zr.zd : GEntry)) hd53⟩
 refine WL_y (Y_build [] tb44 bp0 hf53) ?_
 obtain ⟨r57, hr56, hz⟩ := bind_ok hz
 refine WL_c (O_val (vs := [.agg (sl cs24 (0) 6).toArray, .agg cs53.toArray]) (v := .bool r57) cb61 (args2 rfl rfl) hS (sameEntry_ok hS.agree ha52 ha53 hr56) ?_)
 intro w55 hS
 refine WL_y (Y_not rfl) ?_
 refine WL_nil (nm_then ?_)
 refine W_cond rfl (fun hc58 => ?_) (fun hc58 => ?_)
 replace hz := bif_ok_t hz hc58
 refine W_seq <|W_reg <|WL_y (Y_assign (.bool false) rfl) ?_
 refine WL_nil (nm_then ?_)
 cases hz
 exact W_ret (rt_then (rt_then (rt_blk (rt_then (rt_then (rt_blk (rt_then (R_t1 rfl rfl ⟨rfl, (St.dropB (St.dropB hS hb22) hb3).kept⟩))))))))
 replace hz := bif_ok_f hz hc58
 refine W_skip (nm_then ?_)
 refine W_exit <|ex_then <|ex_hit ?_
 refine (nm_then ?_)
 exact ⟨M48, hF18, (St.dropB hS hb22), hT49_1, hT49_14, hT49_15, hz⟩
 replace hz := bif_ok_f hz hc51
 refine W_skip (nm_then ?_)
 refine W_seqJ (fun T' w' => ∃ M60, Mm.ext w.heap.size noX M48 M60 ∧ St w noX M60 [.box b22 cs24 44, .box b3 cx1 48] w' ∧ T' 1 = .pointer (some ⟨b3, 0, none⟩) ∧ T' 4 = .pointer (some ⟨b22, 0, none⟩) ∧ T' 14 = .agg (sl cx1 (0 + 0) 192).toArray ∧ T' 15 = .int .i64 y8 ∧ isNode_j4 fu y8 rec9 d25 = some r) ?_ ?_
 have hF120 := Mm.ext.refl w.heap.size noX M48
 refine W_seqJ (fun T' w' => ∃ M122 c124, Mm.ext w.heap.size noX M48 M122 ∧ St w noX M122 [.box b22 cs24 44, .box b3 cx1 48] w' ∧ T' 1 = .pointer (some ⟨b3, 0, none⟩) ∧ T' 4 = .pointer (some ⟨b22, 0, none⟩) ∧ T' 14 = .agg (sl cx1 (0 + 0) 192).toArray ∧ T' 15 = .int .i64 y8 ∧ T' 101 = .bool c124 ∧ isNode_j10 fu y8 rec9 d25 c124 = some r) ?_ ?_
 have hF127 := Mm.ext.refl w.heap.size noX M48
 refine W_reg <|WL_y (Y_fa fa44_1 hT49_4) ?_
 obtain ⟨v128, ev128, hv128⟩ := (GEntry.p1 (rr hb24))
 refine WL_y (Y_ld1 v128 ts22 rfl (hS.bvB 0 rfl) ev128) ?_
 obtain ⟨r131, hr130, hz⟩ := bind_ok hz
 replace hr130 := Option.some.inj hr130
 refine WL_c (O_val (vs := [v128]) (v := .bool r131) cb63 (args1 rfl) hS (hr130 ▸ (c_isOps hS.agree hv128)) ?_)
 intro w129 hS
 refine WL_y (Y_not rfl) <|WL_y (Y_move (.bool (!r131)) rfl) ?_
 rcases ic hz with ⟨hc132, hz⟩ | ⟨hc132, hz⟩ <;> rw [hc132]
 refine WL_d 32 rfl ?_
 refine WL_nil (nm_then ?_)
 exact ⟨M48, true, hF127, hS, hT49_1, hT49_4, hT49_14, hT49_15, rfl, hz⟩
 refine WL_gy rfl rfl (Y_fa fa44_2 hT49_4) ?_
 obtain ⟨v133, ev133, hv133⟩ := (GEntry.p2 (rr hb24))
 refine WL_gy rfl rfl (Y_ld1 v133 ts27 rfl (hS.bvB 0 rfl) ev133) ?_
 obtain ⟨r136, hr135, hz⟩ := bind_ok hz
 replace hr135 := Option.some.inj hr135
 refine WL_g rfl rfl (O_val (vs := [v133]) (v := .bool r136) cb64 (args1 rfl) hS (hr135 ▸ (c_isRising hS.agree hv133)) ?_)
 intro w134 hS
 refine WL_gy rfl rfl (Y_not rfl) <|WL_d 2 rfl ?_
 rcases ic hz with ⟨hc137, hz⟩ | ⟨hc137, hz⟩ <;> rw [hc137]
 refine WL_d 26 rfl ?_
 refine WL_nil (nm_then ?_)
 exact ⟨M48, true, hF127, hS, hT49_1, hT49_4, hT49_14, hT49_15, rfl, hz⟩
 refine WL_gy rfl rfl (Y_fa fa44_3 hT49_4) ?_
 obtain ⟨v138, ev138, hv138⟩ := (GEntry.p3 (rr hb24))
 refine WL_gy rfl rfl (Y_ld1 v138 ts27 rfl (hS.bvB 0 rfl) ev138) ?_
 obtain ⟨r141, hr140, hz⟩ := bind_ok hz
 replace hr140 := Option.some.inj hr140
 refine WL_g rfl rfl (O_val (vs := [v138]) (v := .bool r141) cb64 (args1 rfl) hS (hr140 ▸ (c_isRising hS.agree hv138)) ?_)
 intro w139 hS
 refine WL_gy rfl rfl (Y_not rfl) <|WL_d 2 rfl ?_
 rcases ic hz with ⟨hc142, hz⟩ | ⟨hc142, hz⟩ <;> rw [hc142]
 refine WL_d 20 rfl ?_
 refine WL_nil (nm_then ?_)
 exact ⟨M48, true, hF127, hS, hT49_1, hT49_4, hT49_14, hT49_15, rfl, hz⟩
 refine WL_gy rfl rfl (Y_fa fa44_2 hT49_4) ?_
 obtain ⟨v143, ev143, hv143⟩ := (GEntry.p2 (rr hb24))
 refine WL_gy rfl rfl (Y_ld1 v143 ts27 rfl (hS.bvB 0 rfl) ev143) <|WL_gy rfl rfl (Y_move (.int .i64 y8) hT49_3) ?_
 obtain ⟨r146, hr145, hz⟩ := bind_ok hz
 replace hr145 := Option.some.inj hr145
 refine WL_g rfl rfl (O_val (vs := [v143, .int .i64 y8]) (v := .bool r146) cb65 (args2 rfl rfl) hS (hr145 ▸ (c_refHas hS.agree hv143)) ?_)
 intro w144 hS
 refine WL_d 2 rfl ?_
 rcases ic hz with ⟨hc147, hz⟩ | ⟨hc147, hz⟩ <;> rw [hc147]
 refine WL_d 14 rfl ?_
 refine WL_nil (nm_then ?_)
 exact ⟨M48, true, hF127, hS, hT49_1, hT49_4, hT49_14, hT49_15, rfl, hz⟩
 refine WL_gy rfl rfl (Y_fa fa44_3 hT49_4) ?_
 obtain ⟨v148, ev148, hv148⟩ := (GEntry.p3 (rr hb24))
 refine WL_gy rfl rfl (Y_ld1 v148 ts27 rfl (hS.bvB 0 rfl) ev148) <|WL_gy rfl rfl (Y_move (.int .i64 y8) hT49_3) ?_
 obtain ⟨r151, hr150, hz⟩ := bind_ok hz
 replace hr150 := Option.some.inj hr150
 refine WL_g rfl rfl (O_val (vs := [v148, .int .i64 y8]) (v := .bool r151) cb65 (args2 rfl rfl) hS (hr150 ▸ (c_refHas hS.agree hv148)) ?_)
 intro w149 hS
 refine WL_d 2 rfl ?_
 rcases ic hz with ⟨hc152, hz⟩ | ⟨hc152, hz⟩ <;> rw [hc152]
 refine WL_d 8 rfl ?_
 refine WL_nil (nm_then ?_)
 exact ⟨M48, true, hF127, hS, hT49_1, hT49_4, hT49_14, hT49_15, rfl, hz⟩
 refine WL_gy rfl rfl (Y_fa fa44_4 hT49_4) ?_
 obtain ⟨v153, ev153, hv153⟩ := (GEntry.p4 (rr hb24))
 refine WL_gy rfl rfl (Y_ld1 v153 ts27 rfl (hS.bvB 0 rfl) ev153) ?_
 obtain ⟨a154, c154, hv154, _⟩ := repL_shape hv153
 refine WL_gy rfl rfl (Y_lenL Try.underlying27 (tr2 hv154 rfl)) <|WL_gy rfl rfl (Y_fa fa44_5 hT49_4) ?_
 obtain ⟨v155, ev155, hv155⟩ := (GEntry.p5 (rr hb24))
 refine WL_gy rfl rfl (Y_ld1 v155 ts27 rfl (hS.bvB 0 rfl) ev155) ?_
 obtain ⟨a156, c156, hv156, _⟩ := repL_shape hv155
 refine WL_gy rfl rfl (Y_lenL Try.underlying27 (tr2 hv156 rfl)) <|WL_gy rfl rfl (Y_neq rfl rfl) <|WL_y (Y_pick_f (.bool ((d25.at_.length : Int) != (d25.values.length : Int))) rfl rfl) ?_
 refine WL_nil (nm_then ?_)
 exact ⟨M48, ((d25.at_.length : Int) != (d25.values.length : Int)), hF127, hS, hT49_1, hT49_4, hT49_14, hT49_15, rfl, hz⟩
 rintro T123 w121 ⟨M122, c124, hx125, hS, hT123_1, hT123_4, hT123_14, hT123_15, hT123_101, hz⟩
 replace hcx1 := Rep.mono hx125.1 hcx1
 replace ha4 := Rep.mono hx125.1 ha4
 replace hb24 := Rep.mono hx125.1 hb24
 replace hE := Mm.ext.trans hE hx125
 replace hF11 := Mm.ext.trans hF11 hx125
 replace hF18 := Mm.ext.trans hF18 hx125
 replace hF35 := Mm.ext.trans hF35 hx125
 replace hF120 := Mm.ext.trans hF120 hx125
 rw [isNode_j10] at hz
 refine W_cond hT123_101 (fun hc126 => ?_) (fun hc126 => ?_)
 replace hz := bif_ok_t hz hc126
 refine W_seq <|W_reg <|WL_y (Y_assign (.bool false) rfl) ?_
 refine WL_nil (nm_then ?_)
 cases hz
 exact W_ret (rt_then (rt_blk (rt_then (rt_then (rt_blk (rt_then (R_t1 rfl rfl ⟨rfl, (St.dropB (St.dropB hS hb22) hb3).kept⟩)))))))
 replace hz := bif_ok_f hz hc126
 refine W_skip (nm_then ?_)
 exact ⟨M122, hF120, hS, hT123_1, hT123_4, hT123_14, hT123_15, hz⟩
 rintro T61 w59 ⟨M60, hx62, hS, hT61_1, hT61_4, hT61_14, hT61_15, hz⟩
 replace hcx1 := Rep.mono hx62.1 hcx1
 replace ha4 := Rep.mono hx62.1 ha4
 replace hb24 := Rep.mono hx62.1 hb24
 replace hE := Mm.ext.trans hE hx62
 replace hF11 := Mm.ext.trans hF11 hx62
 replace hF18 := Mm.ext.trans hF18 hx62
 replace hF35 := Mm.ext.trans hF35 hx62
 rw [isNode_j4] at hz
 refine W_seqJ (fun T' w' => ∃ M64, Mm.ext w.heap.size noX M60 M64 ∧ St w noX M64 [.box b22 cs24 44, .box b3 cx1 48] w' ∧ T' 1 = .pointer (some ⟨b3, 0, none⟩) ∧ T' 4 = .pointer (some ⟨b22, 0, none⟩) ∧ T' 14 = .agg (sl cx1 (0 + 0) 192).toArray ∧ T' 15 = .int .i64 y8 ∧ isNode_j5 fu y8 rec9 d25 = some r) ?_ ?_
 have hF102 := Mm.ext.refl w.heap.size noX M60
 refine W_seqJ (fun T' w' => ∃ M104 c106, Mm.ext w.heap.size noX M60 M104 ∧ St w noX M104 [.box b22 cs24 44, .box b3 cx1 48] w' ∧ T' 1 = .pointer (some ⟨b3, 0, none⟩) ∧ T' 4 = .pointer (some ⟨b22, 0, none⟩) ∧ T' 14 = .agg (sl cx1 (0 + 0) 192).toArray ∧ T' 15 = .int .i64 y8 ∧ T' 121 = .bool c106 ∧ isNode_j9 fu y8 rec9 d25 c106 = some r) ?_ ?_
 have hF109 := Mm.ext.refl w.heap.size noX M60
 refine W_reg <|WL_y (Y_fa fa44_0 hT61_4) <|WL_y (Y_ld1 (.int .i64 d25.state) ts3 rfl (hS.bvB 0 rfl) (GEntry.p0 (rr hb24))) <|WL_y (Y_eql rfl rfl) <|WL_y (Y_move (.bool (d25.state == 1)) rfl) ?_
 rcases ic hz with ⟨hc110, hz⟩ | ⟨hc110, hz⟩ <;> rw [hc110]
 refine WL_gy rfl rfl (Y_fa fa44_3 hT61_4) ?_
 obtain ⟨v111, ev111, hv111⟩ := (GEntry.p3 (rr hb24))
 refine WL_gy rfl rfl (Y_ld1 v111 ts27 rfl (hS.bvB 0 rfl) ev111) ?_
 obtain ⟨a112, c112, hv112, _⟩ := repL_shape hv111
 refine WL_gy rfl rfl (Y_lenL Try.underlying27 (tr2 hv112 rfl)) <|WL_gy rfl rfl (Y_gtr rfl rfl) <|WL_d 2 rfl ?_
 rcases ic hz with ⟨hc113, hz⟩ | ⟨hc113, hz⟩ <;> rw [hc113]
 refine WL_d 10 rfl ?_
 refine WL_nil (nm_then ?_)
 exact ⟨M60, true, hF109, hS, hT61_1, hT61_4, hT61_14, hT61_15, rfl, hz⟩
 refine WL_gy rfl rfl (Y_fa fa44_0 hT61_4) <|WL_gy rfl rfl (Y_ld1 (.int .i64 d25.state) ts3 rfl (hS.bvB 0 rfl) (GEntry.p0 (rr hb24))) <|WL_gy rfl rfl (Y_lss rfl rfl) <|WL_gy rfl rfl (Y_move (.bool (decide (d25.state < 3))) rfl) ?_
 rcases ic hz with ⟨hc114, hz⟩ | ⟨hc114, hz⟩ <;> rw [hc114]
 refine WL_gy rfl rfl (Y_fa fa44_4 hT61_4) ?_
 obtain ⟨v115, ev115, hv115⟩ := (GEntry.p4 (rr hb24))
 refine WL_gy rfl rfl (Y_ld1 v115 ts27 rfl (hS.bvB 0 rfl) ev115) ?_
 obtain ⟨a116, c116, hv116, _⟩ := repL_shape hv115
 refine WL_gy rfl rfl (Y_lenL Try.underlying27 (tr2 hv116 rfl)) <|WL_gy rfl rfl (Y_gtr rfl rfl) <|WL_d 2 rfl ?_
 refine WL_nil (nm_then ?_)
 exact ⟨M60, (decide ((d25.at_.length : Int) > 0)), hF109, hS, hT61_1, hT61_4, hT61_14, hT61_15, rfl, hz⟩
 refine WL_d 6 rfl ?_
 refine WL_nil (nm_then ?_)
 exact ⟨M60, false, hF109, hS, hT61_1, hT61_4, hT61_14, hT61_15, rfl, hz⟩
 refine WL_d 6 rfl <|WL_gy rfl rfl (Y_fa fa44_0 hT61_4) <|WL_gy rfl rfl (Y_ld1 (.int .i64 d25.state) ts3 rfl (hS.bvB 0 rfl) (GEntry.p0 (rr hb24))) <|WL_gy rfl rfl (Y_lss rfl rfl) <|WL_gy rfl rfl (Y_move (.bool (decide (d25.state < 3))) rfl) ?_
 rcases ic hz with ⟨hc117, hz⟩ | ⟨hc117, hz⟩ <;> rw [hc117]
 refine WL_gy rfl rfl (Y_fa fa44_4 hT61_4) ?_
 obtain ⟨v118, ev118, hv118⟩ := (GEntry.p4 (rr hb24))
 refine WL_gy rfl rfl (Y_ld1 v118 ts27 rfl (hS.bvB 0 rfl) ev118) ?_
 obtain ⟨a119, c119, hv119, _⟩ := repL_shape hv118
 refine WL_gy rfl rfl (Y_lenL Try.underlying27 (tr2 hv119 rfl)) <|WL_gy rfl rfl (Y_gtr rfl rfl) <|WL_d 2 rfl ?_
 refine WL_nil (nm_then ?_)
 exact ⟨M60, (decide ((d25.at_.length : Int) > 0)), hF109, hS, hT61_1, hT61_4, hT61_14, hT61_15, rfl, hz⟩
 refine WL_d 6 rfl ?_
 refine WL_nil (nm_then ?_)
 exact ⟨M60, false, hF109, hS, hT61_1, hT61_4, hT61_14, hT61_15, rfl, hz⟩
 rintro T105 w103 ⟨M104, c106, hx107, hS, hT105_1, hT105_4, hT105_14, hT105_15, hT105_121, hz⟩
 replace hcx1 := Rep.mono hx107.1 hcx1
 replace ha4 := Rep.mono hx107.1 ha4
 replace hb24 := Rep.mono hx107.1 hb24
 replace hE := Mm.ext.trans hE hx107
 replace hF11 := Mm.ext.trans hF11 hx107
 replace hF18 := Mm.ext.trans hF18 hx107
 replace hF35 := Mm.ext.trans hF35 hx107
 replace hF102 := Mm.ext.trans hF102 hx107
 rw [isNode_j9] at hz
 refine W_cond hT105_121 (fun hc108 => ?_) (fun hc108 => ?_)
 replace hz := bif_ok_t hz hc108
 refine W_seq <|W_reg <|WL_y (Y_assign (.bool false) rfl) ?_
 refine WL_nil (nm_then ?_)
 cases hz
 exact W_ret (rt_then (rt_blk (rt_then (rt_then (rt_blk (rt_then (R_t1 rfl rfl ⟨rfl, (St.dropB (St.dropB hS hb22) hb3).kept⟩)))))))
 replace hz := bif_ok_f hz hc108
 refine W_skip (nm_then ?_)
 exact ⟨M104, hF102, hS, hT105_1, hT105_4, hT105_14, hT105_15, hz⟩
 rintro T65 w63 ⟨M64, hx66, hS, hT65_1, hT65_4, hT65_14, hT65_15, hz⟩
 replace hcx1 := Rep.mono hx66.1 hcx1
 replace ha4 := Rep.mono hx66.1 ha4
 replace hb24 := Rep.mono hx66.1 hb24
 replace hE := Mm.ext.trans hE hx66
 replace hF11 := Mm.ext.trans hF11 hx66
 replace hF18 := Mm.ext.trans hF18 hx66
 replace hF35 := Mm.ext.trans hF35 hx66
 rw [isNode_j5] at hz
 refine W_seq <|W_reg <|WL_y (Y_assign (.int .i64 (-1)) rfl) ?_
 refine WL_nil (nm_then ?_)
 refine W_seq <|W_reg <|WL_y (Y_fa fa44_4 hT65_4) ?_
 obtain ⟨v67, ev67, hv67⟩ := (GEntry.p4 (rr hb24))
 refine WL_y (Y_ld1 v67 ts27 rfl (hS.bvB 0 rfl) ev67) ?_
 obtain ⟨a68, c68, hv68, _⟩ := repL_shape hv67
 refine WL_y (Y_lenL Try.underlying27 (tr2 hv68 rfl)) <|WL_y (Y_move (.int .i64 0) rfl) ?_
 refine WL_nil (nm_then ?_)
 refine W_block ?_
 refine W_loop (fun k75 T' w' => ∃ M70 y72 y73, Mm.ext w.heap.size noX M64 M70 ∧ St w noX M70 [.box b22 cs24 44, .box b3 cx1 48] w' ∧ T' 1 = .pointer (some ⟨b3, 0, none⟩) ∧ T' 4 = .pointer (some ⟨b22, 0, none⟩) ∧ T' 8 = .int .i64 y72 ∧ T' 14 = .agg (sl cx1 (0 + 0) 192).toArray ∧ T' 15 = .int .i64 y8 ∧ T' 123 = v67 ∧ T' 124 = .int .i64 (d25.at_.length : Int) ∧ T' 125 = .int .i64 y73 ∧ isNode_l3 y8 rec9 d25 k75 y72 y73 = some r) fu ?_ ?_ ?_
 exact ⟨M64, ((-1) : Int), (0 : Int), (Mm.ext.refl _ _ _), hS, hT65_1, hT65_4, rfl, hT65_14, hT65_15, rfl, rfl, rfl, hz⟩
 rintro T' w' ⟨_, _, _, _, _, _, _, _, _, _, _, _, _, hz⟩
 rw [isNode_l3] at hz
 cases hz
 intro k75
 rintro T71 w69 ⟨M70, y72, y73, hx77, hS, hT71_1, hT71_4, hT71_8, hT71_14, hT71_15, hT71_123, hT71_124, hT71_125, hz⟩
 replace hcx1 := Rep.mono hx77.1 hcx1
 replace ha4 := Rep.mono hx77.1 ha4
 replace hb24 := Rep.mono hx77.1 hb24
 replace hv67 := repL.mono hx77.1 hv67
 replace hE := Mm.ext.trans hE hx77
 replace hF11 := Mm.ext.trans hF11 hx77
 replace hF18 := Mm.ext.trans hF18 hx77
 replace hF35 := Mm.ext.trans hF35 hx77
 have hF76 := hx77
 rw [isNode_l3] at hz
 obtain ⟨rec74, hrec74⟩ : ∃ f, f = isNode_l3 y8 rec9 d25 k75 := ⟨_, rfl⟩
 rw [← hrec74] at hz
 refine W_seq <|W_reg <|WL_y (Y_lss hT71_125 hT71_124) ?_
 refine WL_nil (nm_then ?_)
 refine W_seq ?_
 refine W_cond rfl (fun hc78 => ?_) (fun hc78 => ?_)
 replace hz := bif_ok_t hz hc78
 refine W_skip (nm_then ?_)
 refine W_seqJ (fun T' w' => ∃ M80 y82, Mm.ext w.heap.size noX M70 M80 ∧ St w noX M80 [.box b22 cs24 44, .box b3 cx1 48] w' ∧ T' 1 = .pointer (some ⟨b3, 0, none⟩) ∧ T' 4 = .pointer (some ⟨b22, 0, none⟩) ∧ T' 8 = .int .i64 y82 ∧ T' 14 = .agg (sl cx1 (0 + 0) 192).toArray ∧ T' 15 = .int .i64 y8 ∧ T' 123 = v67 ∧ T' 124 = .int .i64 (d25.at_.length : Int) ∧ T' 125 = .int .i64 y73 ∧ isNode_j6 y73 rec74 y82 = some r) ?_ ?_
 have hF84 := Mm.ext.refl w.heap.size noX M70
 refine W_block <|W_seq <|W_reg ?_
 obtain ⟨x86, hx85, hz⟩ := bind_ok hz
 obtain ⟨b85, o85, c85, p85, hv85, hi85, hj85, hM85, hr85⟩ := repL_at hv67 hx85
 replace hr85 : rep _ (sl p85 (o85 + Int.toNat y73 * 1) 1) x86 := hr85
 refine WL_y (Y_ixL il27 hT71_123 hv85 hT71_125 hi85 hj85) <|WL_y (Y_ld1 (.int .i64 x86) ts3 rfl (hS.bvM hM85) hr85) <|WL_y (Y_assign (.int .i64 x86) rfl) ?_
 refine WL_nil (nm_then ?_)
 refine W_seqJ (fun T' w' => ∃ M88, Mm.ext w.heap.size noX M70 M88 ∧ St w noX M88 [.box b22 cs24 44, .box b3 cx1 48] w' ∧ T' 1 = .pointer (some ⟨b3, 0, none⟩) ∧ T' 4 = .pointer (some ⟨b22, 0, none⟩) ∧ T' 10 = .int .i64 x86 ∧ T' 14 = .agg (sl cx1 (0 + 0) 192).toArray ∧ T' 15 = .int .i64 y8 ∧ T' 123 = v67 ∧ T' 124 = .int .i64 (d25.at_.length : Int) ∧ T' 125 = .int .i64 y73 ∧ isNode_j7 y73 rec74 x86 = some r) ?_ ?_
 have hF91 := Mm.ext.refl w.heap.size noX M70
 refine W_seqJ (fun T' w' => ∃ M93 c95, Mm.ext w.heap.size noX M70 M93 ∧ St w noX M93 [.box b22 cs24 44, .box b3 cx1 48] w' ∧ T' 1 = .pointer (some ⟨b3, 0, none⟩) ∧ T' 4 = .pointer (some ⟨b22, 0, none⟩) ∧ T' 10 = .int .i64 x86 ∧ T' 14 = .agg (sl cx1 (0 + 0) 192).toArray ∧ T' 15 = .int .i64 y8 ∧ T' 123 = v67 ∧ T' 124 = .int .i64 (d25.at_.length : Int) ∧ T' 125 = .int .i64 y73 ∧ T' 138 = .bool c95 ∧ isNode_j8 y73 rec74 x86 c95 = some r) ?_ ?_
 have hF98 := Mm.ext.refl w.heap.size noX M70
 refine W_reg <|WL_y (Y_move (.int .i64 x86) rfl) <|WL_y (Y_move (.int .i64 y72) hT71_8) <|WL_y (Y_leq rfl rfl) <|WL_y (Y_move (.bool (decide (x86 ≤ y72))) rfl) ?_
 rcases ic hz with ⟨hc99, hz⟩ | ⟨hc99, hz⟩ <;> rw [hc99]
 refine WL_d 6 rfl ?_
 refine WL_nil (nm_then ?_)
 exact ⟨M70, true, hF98, hS, hT71_1, hT71_4, rfl, hT71_14, hT71_15, hT71_123, hT71_124, hT71_125, rfl, hz⟩
 refine WL_gy rfl rfl (Y_move (.int .i64 x86) rfl) <|WL_gy rfl rfl (Y_fa fa44_1 hT71_4) ?_
 obtain ⟨v100, ev100, hv100⟩ := (GEntry.p1 (rr hb24))
 refine WL_gy rfl rfl (Y_ld1 v100 ts22 rfl (hS.bvB 0 rfl) ev100) ?_
 obtain ⟨a101, c101, hv101, _⟩ := repL_shape hv100
 refine WL_gy rfl rfl (Y_lenL Try.underlying22 (tr2 hv101 rfl)) <|WL_gy rfl rfl (Y_geq rfl rfl) <|WL_y (Y_pick_f (.bool (decide (x86 ≥ (d25.ops.length : Int)))) rfl rfl) ?_
 refine WL_nil (nm_then ?_)
 exact ⟨M70, (decide (x86 ≥ (d25.ops.length : Int))), hF98, hS, hT71_1, hT71_4, rfl, hT71_14, hT71_15, hT71_123, hT71_124, hT71_125, rfl, hz⟩
 rintro T94 w92 ⟨M93, c95, hx96, hS, hT94_1, hT94_4, hT94_10, hT94_14, hT94_15, hT94_123, hT94_124, hT94_125, hT94_138, hz⟩
 replace hcx1 := Rep.mono hx96.1 hcx1
 replace ha4 := Rep.mono hx96.1 ha4
 replace hb24 := Rep.mono hx96.1 hb24
 replace hv67 := repL.mono hx96.1 hv67
 replace hE := Mm.ext.trans hE hx96
 replace hF11 := Mm.ext.trans hF11 hx96
 replace hF18 := Mm.ext.trans hF18 hx96
 replace hF35 := Mm.ext.trans hF35 hx96
 replace hF76 := Mm.ext.trans hF76 hx96
 replace hF84 := Mm.ext.trans hF84 hx96
 replace hF91 := Mm.ext.trans hF91 hx96
 rw [isNode_j8] at hz
 refine W_cond hT94_138 (fun hc97 => ?_) (fun hc97 => ?_)
 replace hz := bif_ok_t hz hc97
 refine W_seq <|W_reg <|WL_y (Y_assign (.bool false) rfl) ?_
 refine WL_nil (nm_then ?_)
 cases hz
 exact W_ret (rt_then (rt_blk (rt_then (rt_then (rt_blk (rt_blk (rt_then (rt_then (rt_blk (rt_then (R_t1 rfl rfl ⟨rfl, (St.dropB (St.dropB hS hb22) hb3).kept⟩)))))))))))
 replace hz := bif_ok_f hz hc97
 refine W_skip (nm_then ?_)
 exact ⟨M93, hF91, hS, hT94_1, hT94_4, hT94_10, hT94_14, hT94_15, hT94_123, hT94_124, hT94_125, hz⟩
 rintro T89 w87 ⟨M88, hx90, hS, hT89_1, hT89_4, hT89_10, hT89_14, hT89_15, hT89_123, hT89_124, hT89_125, hz⟩
 replace hcx1 := Rep.mono hx90.1 hcx1
 replace ha4 := Rep.mono hx90.1 ha4
 replace hb24 := Rep.mono hx90.1 hb24
 replace hv67 := repL.mono hx90.1 hv67
 replace hE := Mm.ext.trans hE hx90
 replace hF11 := Mm.ext.trans hF11 hx90
 replace hF18 := Mm.ext.trans hF18 hx90
 replace hF35 := Mm.ext.trans hF35 hx90
 replace hF76 := Mm.ext.trans hF76 hx90
 replace hF84 := Mm.ext.trans hF84 hx90
 rw [isNode_j7] at hz
 refine W_reg <|WL_y (Y_move (.int .i64 x86) hT89_10) <|WL_y (Y_assign (.int .i64 x86) rfl) ?_
 refine WL_nil (nm_blk ?_)
 refine (nm_then ?_)
 exact ⟨M88, x86, hF84, hS, hT89_1, hT89_4, rfl, hT89_14, hT89_15, hT89_123, hT89_124, hT89_125, hz⟩
 rintro T81 w79 ⟨M80, y82, hx83, hS, hT81_1, hT81_4, hT81_8, hT81_14, hT81_15, hT81_123, hT81_124, hT81_125, hz⟩
 replace hcx1 := Rep.mono hx83.1 hcx1
 replace ha4 := Rep.mono hx83.1 ha4
 replace hb24 := Rep.mono hx83.1 hb24
 replace hv67 := repL.mono hx83.1 hv67
 replace hE := Mm.ext.trans hE hx83
 replace hF11 := Mm.ext.trans hF11 hx83
 replace hF18 := Mm.ext.trans hF18 hx83
 replace hF35 := Mm.ext.trans hF35 hx83
 replace hF76 := Mm.ext.trans hF76 hx83
 rw [isNode_j6] at hz
 refine W_reg <|WL_y (Y_add hT81_125 rfl) <|WL_y (Y_move (.int .i64 (IntKind.wrap .i64 (y73 + 1))) rfl) ?_
 refine WL_nil (nm_then ?_)
 exact ⟨M80, y82, (IntKind.wrap .i64 (y73 + 1)), hF76, hS, hT81_1, hT81_4, hT81_8, hT81_14, hT81_15, hT81_123, hT81_124, rfl, (by rw [← hrec74]; exact hz)⟩
 replace hz := bif_ok_f hz hc78
 refine W_exit <|ex_then <|ex_then <|ex_hit ?_
 refine (nm_blk ?_)
 refine (nm_then ?_)
 exact ⟨M70, hF18, (St.dropB hS hb22), hT71_1, hT71_14, hT71_15, hz⟩
 rintro T16 w14 ⟨M15, hx17, hS, hT16_1, hT16_14, hT16_15, hz⟩
 replace hcx1 := Rep.mono hx17.1 hcx1
 replace ha4 := Rep.mono hx17.1 ha4
 replace hE := Mm.ext.trans hE hx17
 replace hF11 := Mm.ext.trans hF11 hx17
 rw [isNode_j1] at hz
 refine W_reg <|WL_y (Y_add hT16_15 rfl) <|WL_y (Y_move (.int .i64 (IntKind.wrap .i64 (y8 + 1))) rfl) ?_
 refine WL_nil (nm_then ?_)
 exact ⟨M15, (IntKind.wrap .i64 (y8 + 1)), hF11, hS, hT16_1, hT16_14, rfl, (by rw [← hrec9]; exact hz)⟩
 replace hz := bif_ok_f hz hc13
 refine W_exit <|ex_then <|ex_then <|ex_hit ?_
 refine (nm_then ?_)
 refine W_seq <|W_seq <|W_reg <|WL_y (Y_fa fa48_1 hT7_1) ?_
 obtain ⟨v171, ev171, hv171⟩ := (GNode.p1 (rr hcx1))
 refine WL_y (Y_ld1 v171 ts27 rfl (hS.bvB 0 rfl) ev171) ?_
 obtain ⟨a172, c172, hv172, _⟩ := repL_shape hv171
 refine WL_y (Y_lenL Try.underlying27 (tr2 hv172 rfl)) <|WL_y (Y_move (.int .i64 0) rfl) ?_
 refine WL_nil (nm_then ?_)
 refine W_block ?_
 refine W_loop (fun k178 T' w' => ∃ M174 y176, Mm.ext w.heap.size noX M6 M174 ∧ St w noX M174 [.box b3 cx1 48] w' ∧ T' 143 = v171 ∧ T' 144 = .int .i64 (x1.order.length : Int) ∧ T' 145 = .int .i64 y176 ∧ isNode_l4 x1 k178 y176 = some r) fu ?_ ?_ ?_
 exact ⟨M6, (0 : Int), (Mm.ext.refl _ _ _), hS, rfl, rfl, rfl, hz⟩
 rintro T' w' ⟨_, _, _, _, _, _, _, hz⟩
 rw [isNode_l4] at hz
 cases hz
 intro k178
 rintro T175 w173 ⟨M174, y176, hx180, hS, hT175_143, hT175_144, hT175_145, hz⟩
 replace hcx1 := Rep.mono hx180.1 hcx1
 replace hv171 := repL.mono hx180.1 hv171
 replace hE := Mm.ext.trans hE hx180
 replace hF11 := Mm.ext.trans hF11 hx180
 have hF179 := hx180
 rw [isNode_l4] at hz
 obtain ⟨rec177, hrec177⟩ : ∃ f, f = isNode_l4 x1 k178 := ⟨_, rfl⟩
 rw [← hrec177] at hz
 refine W_seq <|W_reg <|WL_y (Y_lss hT175_145 hT175_144) ?_
 refine WL_nil (nm_then ?_)
 refine W_seq ?_
 refine W_cond rfl (fun hc181 => ?_) (fun hc181 => ?_)
 replace hz := bif_ok_t hz hc181
 refine W_skip (nm_then ?_)
 refine W_seq <|W_block <|W_seq <|W_reg ?_
 obtain ⟨x183, hx182, hz⟩ := bind_ok hz
 obtain ⟨b182, o182, c182, p182, hv182, hi182, hj182, hM182, hr182⟩ := repL_at hv171 hx182
 replace hr182 : rep _ (sl p182 (o182 + Int.toNat y176 * 1) 1) x183 := hr182
 refine WL_y (Y_ixL il27 hT175_143 hv182 hT175_145 hi182 hj182) <|WL_y (Y_ld1 (.int .i64 x183) ts3 rfl (hS.bvM hM182) hr182) <|WL_y (Y_assign (.int .i64 x183) rfl) ?_
 refine WL_nil (nm_then ?_)
 refine W_seq <|W_reg <|WL_y (Y_move (.int .i64 x183) rfl) ?_
 obtain ⟨r186, hr185, hz⟩ := bind_ok hz
 replace hr185 := Option.some.inj hr185
 refine WL_c (O_val (vs := [.int .i64 x183]) (v := .bool r186) cb66 (args1 rfl) hS (hr185 ▸ (c_isTxn)) ?_)
 intro w184 hS
 refine WL_y (Y_not rfl) ?_
 refine WL_nil (nm_then ?_)
 refine W_cond rfl (fun hc187 => ?_) (fun hc187 => ?_)
 replace hz := bif_ok_t hz hc187
 refine W_seq <|W_reg <|WL_y (Y_assign (.bool false) rfl) ?_
 refine WL_nil (nm_then ?_)
 cases hz
 exact W_ret (rt_blk (rt_then (rt_then (rt_blk (rt_then (R_t1 rfl rfl ⟨rfl, (St.dropB hS hb3).kept⟩))))))
 replace hz := bif_ok_f hz hc187
 refine W_skip (nm_blk ?_)
 refine (nm_then ?_)
 refine W_reg <|WL_y (Y_add hT175_145 rfl) <|WL_y (Y_move (.int .i64 (IntKind.wrap .i64 (y176 + 1))) rfl) ?_
 refine WL_nil (nm_then ?_)
 exact ⟨M174, (IntKind.wrap .i64 (y176 + 1)), hF179, hS, hT175_143, hT175_144, rfl, (by rw [← hrec177]; exact hz)⟩
 replace hz := bif_ok_f hz hc181
 refine W_exit <|ex_then <|ex_then <|ex_hit ?_
 refine (nm_then ?_)
 refine W_seq <|W_reg <|WL_y (Y_assign (.bool true) rfl) ?_
 refine WL_nil (nm_then ?_)
 cases hz
 exact W_ret (R_t1 rfl rfl ⟨rfl, (St.dropB hS hb3).kept⟩)
def before_j1 (y13 : Int) (rec14 : (List Int) → Int → Option (List Int)) (l22 : List Int) : Option (List Int) :=
 rec14 l22 (IntKind.wrap .i64 (y13 + 1))
def before_j2 (l11 : List Int) (y13 : Int) (rec14 : (List Int) → Int → Option (List Int)) (c29 : Bool) : Option (List Int) :=
 (bif c29 then
 (app l11 ([y13] : List Int)).bind fun l36 =>
 before_j1 y13 rec14 l36
 else
 before_j1 y13 rec14 l11)
def before_l1 (x1 : GNode) (x2 : Int) (x3 : List GOp) (x4 : Int) : Nat → (List Int) → Int → Option (List Int)
 | 0, _, _ => none
 | n + 1, l11, y13 =>
 (bif decide (y13 < 32) then
 (bif y13 != x2 then
 (inR y13 32).bind fun _ =>
 (idxV x1.entries y13).bind fun x41 =>
 (bif decide (x41.state > 0) then
 (inR y13 32).bind fun _ =>
 (idxV x1.entries y13).bind fun x46 =>
 (some (conflictZ x46.ops x3 x4)).bind fun r51 =>
 before_j2 l11 y13 (before_l1 x1 x2 x3 x4 n) r51
 else
 before_j2 l11 y13 (before_l1 x1 x2 x3 x4 n) false)
 else
 before_j2 l11 y13 (before_l1 x1 x2 x3 x4 n) false)
 else
 some l11)
def beforeD (fu : Nat) (x1 : GNode) (x2 : Int) (x3 : List GOp) (x4 : Int) : Option (List Int) :=
 before_l1 x1 x2 x3 x4 fu ([] : List Int) 0
set_option maxRecDepth 100000 in
set_option maxHeartbeats 4000000 in
theorem before_ok {M : Mm} {w : World} {cx1 : List Value} {vx3 : Value} {x1 : GNode} {x2 : Int} {x3 : List GOp} {x4 : Int} {fu : Nat} {r : (List Int)} (hA : Agree M w) (hcx1 : rep M cx1 x1) (hvx3 : repL M vx3 x3) (hz : beforeD fu x1 x2 x3 x4 = some r) :
    Calls Try.prog 57 #[.agg cx1.toArray, .int .i64 x2, vx3, .int .i64 x4] w (Gives M w (fun M' u => repL M' u r)) := by
 refine calls_W Try.func57 rfl 41 rfl rfl (by kernel_rfl) fun T hT => ?_
 have hT_0 : T 0 = .agg cx1.toArray := hT 0
 have hT_1 : T 1 = .int .i64 x2 := hT 1
 have hT_2 : T 2 = vx3 := hT 2
 have hT_3 : T 3 = .int .i64 x4 := hT 3
 clear hT
 have hE := Mm.ext.refl w.heap.size noX M
 have hS : St w noX M [] w := St.start hA
 rw [beforeD] at hz
 refine W_seq <|W_reg ?_
 refine WL_c (O_box (v := .agg cx1.toArray) (cs := cx1) hT_0 rfl hS ?_)
 intro b6 w5 hb6 hS
 refine WL_y (Y_assign ((.slice none 0 0)) rfl) ?_
 refine WL_nil (nm_then ?_)
 refine W_seq <|W_reg <|WL_y (Y_assign ((.slice none 0 0)) rfl) ?_
 refine WL_nil (nm_then ?_)
 refine W_seq <|W_seq <|W_reg <|WL_y (Y_move (.int .i64 0) rfl) ?_
 refine WL_nil (nm_then ?_)
 refine W_block ?_
 replace hS := hS.nilRow 3 1
 refine W_loop (fun k15 T' w' => ∃ M9 v12 l11 y13, Mm.ext w.heap.size noX M M9 ∧ St w noX M9 [.row v12 3 1, .box b6 cx1 48] w' ∧ repL M9 v12 l11 ∧ T' 1 = .int .i64 x2 ∧ T' 2 = vx3 ∧ T' 3 = .int .i64 x4 ∧ T' 4 = .pointer (some ⟨b6, 0, none⟩) ∧ T' 9 = v12 ∧ T' 11 = .int .i64 y13 ∧ before_l1 x1 x2 x3 x4 k15 l11 y13 = some r) fu ?_ ?_ ?_
 exact ⟨M, (.slice none 0 0), ([] : List Int), (0 : Int), (Mm.ext.refl _ _ _), hS, (repL_nil _), hT_1, hT_2, hT_3, rfl, rfl, rfl, hz⟩
 rintro T' w' ⟨_, _, _, _, _, _, _, _, _, _, _, _, _, hz⟩
 rw [before_l1] at hz
 cases hz
 intro k15
 rintro T10 w8 ⟨M9, v12, l11, y13, hx17, hS, hv12, hT10_1, hT10_2, hT10_3, hT10_4, hT10_9, hT10_11, hz⟩
 replace hcx1 := Rep.mono hx17.1 hcx1
 replace hvx3 := repL.mono hx17.1 hvx3
 replace hE := Mm.ext.trans hE hx17
 have hF16 := hx17
 rw [before_l1] at hz
 obtain ⟨rec14, hrec14⟩ : ∃ f, f = before_l1 x1 x2 x3 x4 k15 := ⟨_, rfl⟩
 rw [← hrec14] at hz
 refine W_seq <|W_reg <|WL_y (Y_lss hT10_11 rfl) ?_
 refine WL_nil (nm_then ?_)
 refine W_seq ?_
 refine W_cond rfl (fun hc18 => ?_) (fun hc18 => ?_)
 replace hz := bif_ok_t hz hc18
 refine W_skip (nm_then ?_)
 refine W_seqJ (fun T' w' => ∃ M20 v23 l22, Mm.ext w.heap.size noX M9 M20 ∧ St w noX M20 [.row v23 3 1, .box b6 cx1 48] w' ∧ repL M20 v23 l22 ∧ T' 1 = .int .i64 x2 ∧ T' 2 = vx3 ∧ T' 3 = .int .i64 x4 ∧ T' 4 = .pointer (some ⟨b6, 0, none⟩) ∧ T' 9 = v23 ∧ T' 11 = .int .i64 y13 ∧ before_j1 y13 rec14 l22 = some r) ?_ ?_
 have hF25 := Mm.ext.refl w.heap.size noX M9
 refine W_block <|W_seq <|W_reg <|WL_y (Y_move (.int .i64 y13) hT10_11) <|WL_y (Y_assign (.int .i64 y13) rfl) ?_
 refine WL_nil (nm_then ?_)
 refine W_seqJ (fun T' w' => ∃ M27 c29, Mm.ext w.heap.size noX M9 M27 ∧ St w noX M27 [.row v12 3 1, .box b6 cx1 48] w' ∧ T' 1 = .int .i64 x2 ∧ T' 2 = vx3 ∧ T' 3 = .int .i64 x4 ∧ T' 4 = .pointer (some ⟨b6, 0, none⟩) ∧ T' 9 = v12 ∧ T' 10 = .int .i64 y13 ∧ T' 11 = .int .i64 y13 ∧ T' 34 = .bool c29 ∧ before_j2 l11 y13 rec14 c29 = some r) ?_ ?_
 have hF37 := Mm.ext.refl w.heap.size noX M9
 refine W_reg <|WL_y (Y_move (.int .i64 y13) rfl) <|WL_y (Y_move (.int .i64 x2) hT10_1) <|WL_y (Y_neq rfl rfl) <|WL_y (Y_move (.bool (y13 != x2)) rfl) ?_
 rcases ic hz with ⟨hc38, hz⟩ | ⟨hc38, hz⟩ <;> rw [hc38]
 refine WL_gy rfl rfl (Y_move (.int .i64 y13) rfl) <|WL_gy rfl rfl (Y_fa fa48_0 hT10_4) ?_
 obtain ⟨u39, hx40, hz⟩ := bind_ok hz
 obtain ⟨hx40a, hx40b⟩ := inR_some hx40
 refine WL_gy rfl rfl (Y_ixA ia45 rfl rfl hx40a hx40b) <|WL_gy rfl rfl (Y_fa fa44_0 rfl) ?_
 obtain ⟨x41, hx42, hz⟩ := bind_ok hz
 refine WL_gy rfl rfl (Y_ld1 (.int .i64 x41.state) ts3 rfl (hS.bvB 1 rfl) (GEntry.p0 (vp (k := 6) rfl rfl (GNode.p0 (rr hcx1)) hx42))) <|WL_gy rfl rfl (Y_gtr rfl rfl) <|WL_d 2 rfl ?_
 rcases ic hz with ⟨hc43, hz⟩ | ⟨hc43, hz⟩ <;> rw [hc43]
 refine WL_gy rfl rfl (Y_move (.int .i64 y13) rfl) <|WL_gy rfl rfl (Y_fa fa48_0 hT10_4) ?_
 obtain ⟨u44, hx45, hz⟩ := bind_ok hz
 obtain ⟨hx45a, hx45b⟩ := inR_some hx45
 refine WL_gy rfl rfl (Y_ixA ia45 rfl rfl hx45a hx45b) <|WL_gy rfl rfl (Y_fa fa44_1 rfl) ?_
 obtain ⟨x46, hx47, hz⟩ := bind_ok hz
 obtain ⟨v48, ev48, hv48⟩ := (GEntry.p1 (vp (k := 6) rfl rfl (GNode.p0 (rr hcx1)) hx47))
 refine WL_gy rfl rfl (Y_ld1 v48 ts22 rfl (hS.bvB 1 rfl) ev48) <|WL_gy rfl rfl (Y_move (vx3) hT10_2) <|WL_gy rfl rfl (Y_move (.int .i64 x4) hT10_3) ?_
 obtain ⟨r51, hr50, hz⟩ := bind_ok hz
 replace hr50 := Option.some.inj hr50
 refine WL_g rfl rfl (O_val (vs := [v48, vx3, .int .i64 x4]) (v := .bool r51) cb77 (args3 rfl rfl rfl) hS (hr50 ▸ (c_inWay hS.agree hv48 hvx3)) ?_)
 intro w49 hS
 refine WL_y (Y_pick_t (.bool r51) rfl rfl) ?_
 refine WL_nil (nm_then ?_)
 exact ⟨M9, r51, hF37, hS, hT10_1, hT10_2, hT10_3, hT10_4, hT10_9, rfl, hT10_11, rfl, hz⟩
 refine WL_d 9 rfl ?_
 refine WL_nil (nm_then ?_)
 exact ⟨M9, false, hF37, hS, hT10_1, hT10_2, hT10_3, hT10_4, hT10_9, rfl, hT10_11, rfl, hz⟩
 refine WL_d 17 rfl ?_
 refine WL_nil (nm_then ?_)
 exact ⟨M9, false, hF37, hS, hT10_1, hT10_2, hT10_3, hT10_4, hT10_9, rfl, hT10_11, rfl, hz⟩
 rintro T28 w26 ⟨M27, c29, hx30, hS, hT28_1, hT28_2, hT28_3, hT28_4, hT28_9, hT28_10, hT28_11, hT28_34, hz⟩
 replace hcx1 := Rep.mono hx30.1 hcx1
 replace hvx3 := repL.mono hx30.1 hvx3
 replace hv12 := repL.mono hx30.1 hv12
 replace hE := Mm.ext.trans hE hx30
 replace hF16 := Mm.ext.trans hF16 hx30
 replace hF25 := Mm.ext.trans hF25 hx30
 rw [before_j2] at hz
 refine W_cond hT28_34 (fun hc31 => ?_) (fun hc31 => ?_)
 replace hz := bif_ok_t hz hc31
 refine W_reg <|WL_y (Y_move (v12) hT28_9) <|WL_y (Y_move (.int .i64 y13) hT28_10) ?_
 refine WL_c (O_bslice (α := Int) (l := ([y13] : List Int)) [.int .i64 y13] tl27 (bpc rfl bp0) rfl rfl (by decide) (by decide) (by decide) hS (brc (ri y13 : rep M27 _ _) br0) ?_)
 intro v33 M33 w32 hx33 hv33 hS
 replace hcx1 := Rep.mono hx33.1 hcx1
 replace hvx3 := repL.mono hx33.1 hvx3
 replace hv12 := repL.mono hx33.1 hv12
 replace hE := Mm.ext.trans hE hx33
 replace hF16 := Mm.ext.trans hF16 hx33
 replace hF25 := Mm.ext.trans hF25 hx33
 obtain ⟨l36, hr35, hz⟩ := bind_ok hz
 obtain ⟨hy35, hs35⟩ := app_some hr35
 refine WL_c (O_app (α := Int) (j := 0) tp27 hS rfl rfl rfl hv12 hv33 hy35 ?_)
 intro v35 M35 w34 hx35 hv35 hS
 rw [← hs35] at hv35
 clear hr35 hs35
 replace hcx1 := Rep.mono hx35.1 hcx1
 replace hvx3 := repL.mono hx35.1 hvx3
 replace hv12 := repL.mono hx35.1 hv12
 replace hv33 := repL.mono hx35.1 hv33
 replace hE := Mm.ext.trans hE hx35
 replace hF16 := Mm.ext.trans hF16 hx35
 replace hF25 := Mm.ext.trans hF25 hx35
 refine WL_y (Y_assign (v35) rfl) ?_
 refine WL_nil (nm_blk ?_)
 refine (nm_then ?_)
 exact ⟨M35, v35, l36, hF25, hS, hv35, hT28_1, hT28_2, hT28_3, hT28_4, rfl, hT28_11, hz⟩
 replace hz := bif_ok_f hz hc31
 refine W_skip (nm_blk ?_)
 refine (nm_then ?_)
 exact ⟨M27, v12, l11, hF25, hS, hv12, hT28_1, hT28_2, hT28_3, hT28_4, hT28_9, hT28_11, hz⟩
 rintro T21 w19 ⟨M20, v23, l22, hx24, hS, hv23, hT21_1, hT21_2, hT21_3, hT21_4, hT21_9, hT21_11, hz⟩
 replace hcx1 := Rep.mono hx24.1 hcx1
 replace hvx3 := repL.mono hx24.1 hvx3
 replace hE := Mm.ext.trans hE hx24
 replace hF16 := Mm.ext.trans hF16 hx24
 rw [before_j1] at hz
 refine W_reg <|WL_y (Y_add hT21_11 rfl) <|WL_y (Y_move (.int .i64 (IntKind.wrap .i64 (y13 + 1))) rfl) ?_
 refine WL_nil (nm_then ?_)
 exact ⟨M20, v23, l22, (IntKind.wrap .i64 (y13 + 1)), hF16, hS, hv23, hT21_1, hT21_2, hT21_3, hT21_4, hT21_9, rfl, (by rw [← hrec14]; exact hz)⟩
 replace hz := bif_ok_f hz hc18
 refine W_exit <|ex_then <|ex_then <|ex_hit ?_
 refine (nm_then ?_)
 refine W_seq <|W_reg <|WL_y (Y_move (v12) hT10_9) <|WL_y (Y_assign (v12) rfl) ?_
 refine WL_nil (nm_then ?_)
 cases hz
 exact W_ret (R_t1 rfl rfl (Gives.mk (St.dropB (St.drop hS) hb6) hE hv12))
def graphOf_l1 (x1 : GNode) : Nat → GGraph → Int → Option GGraph
 | 0, _, _ => none
 | n + 1, d12, y13 =>
 (bif decide (y13 < 32) then
 (inR y13 32).bind fun _ =>
 (idxV x1.entries y13).bind fun x21 =>
 (inR y13 32).bind fun _ =>
 (idxV d12.known y13).bind fun x27 =>
 (setV d12.known y13 (decide (x21.state > 1))).bind fun a29 =>
 (some ({ d12 with known := a29 } : GGraph)).bind fun d31 =>
 (inR y13 32).bind fun _ =>
 (idxV x1.entries y13).bind fun x34 =>
 (inR y13 32).bind fun _ =>
 (idxV d31.deps y13).bind fun x41 =>
 (setV d31.deps y13 x34.deps).bind fun a43 =>
 (some ({ d31 with deps := a43 } : GGraph)).bind fun d45 =>
 (graphOf_l1 x1 n) d45 (IntKind.wrap .i64 (y13 + 1))
 else
 (some d12).bind fun d49 =>
 some d49)
def graphOfD (fu : Nat) (x1 : GNode) : Option GGraph :=
 graphOf_l1 x1 fu (Zr.zd : GGraph) 0
set_option maxRecDepth 100000 in
set_option maxHeartbeats 4000000 in
theorem graphOf_ok {M : Mm} {w : World} {cx1 : List Value} {x1 : GNode} {fu : Nat} {r : GGraph} (hA : Agree M w) (hcx1 : rep M cx1 x1) (hz : graphOfD fu x1 = some r) :
    Calls Try.prog 58 #[.agg cx1.toArray] w (Gives M w (fun M' u => ∃ cs, u = .agg cs.toArray ∧ rep M' cs r)) := by
 refine calls_W Try.func58 rfl 27 rfl rfl (by kernel_rfl) fun T hT => ?_
 have hT_0 : T 0 = .agg cx1.toArray := hT 0
 clear hT
 have hE := Mm.ext.refl w.heap.size noX M
 have hS : St w noX M [] w := St.start hA
 rw [graphOfD] at hz
 refine W_seq <|W_reg ?_
 refine WL_c (O_box (v := .agg cx1.toArray) (cs := cx1) hT_0 rfl hS ?_)
 intro b3 w2 hb3 hS
 refine WL_c (O_alloc tz64 hS ?_)
 intro b5 w4 hb5 hS
 have zb5 : rep M (Zr.zc GGraph) (Zr.zd : GGraph) := Zr.zr
 refine WL_nil (nm_then ?_)
 refine W_seq <|W_reg ?_
 refine WL_c (O_alloc tz64 hS ?_)
 intro b7 w6 hb7 hS
 have zb7 : rep M (Zr.zc GGraph) (Zr.zd : GGraph) := Zr.zr
 refine WL_nil (nm_then ?_)
 refine W_seq <|W_seq <|W_reg <|WL_y (Y_move (.int .i64 0) rfl) ?_
 refine WL_nil (nm_then ?_)
 refine W_block ?_
 refine W_loop (fun k15 T' w' => ∃ M9 cs11 d12 y13, Mm.ext w.heap.size noX M M9 ∧ St w noX M9 [.box b7 cs11 64, .box b5 (Zr.zc GGraph) 64, .box b3 cx1 48] w' ∧ rep M9 cs11 d12 ∧ T' 1 = .pointer (some ⟨b3, 0, none⟩) ∧ T' 2 = .pointer (some ⟨b5, 0, none⟩) ∧ T' 3 = .pointer (some ⟨b7, 0, none⟩) ∧ T' 5 = .int .i64 y13 ∧ graphOf_l1 x1 k15 d12 y13 = some r) fu ?_ ?_ ?_
 exact ⟨M, (Zr.zc GGraph), (Zr.zd : GGraph), (0 : Int), (Mm.ext.refl _ _ _), hS, zb7, rfl, rfl, rfl, rfl, hz⟩
 rintro T' w' ⟨_, _, _, _, _, _, _, _, _, _, _, hz⟩
 rw [graphOf_l1] at hz
 cases hz
 intro k15
 rintro T10 w8 ⟨M9, cs11, d12, y13, hx17, hS, hb11, hT10_1, hT10_2, hT10_3, hT10_5, hz⟩
 replace hcx1 := Rep.mono hx17.1 hcx1
 replace zb5 := Rep.mono hx17.1 zb5
 replace hE := Mm.ext.trans hE hx17
 have hF16 := hx17
 rw [graphOf_l1] at hz
 obtain ⟨rec14, hrec14⟩ : ∃ f, f = graphOf_l1 x1 k15 := ⟨_, rfl⟩
 rw [← hrec14] at hz
 refine W_seq <|W_reg <|WL_y (Y_lss hT10_5 rfl) ?_
 refine WL_nil (nm_then ?_)
 refine W_seq ?_
 refine W_cond rfl (fun hc18 => ?_) (fun hc18 => ?_)
 replace hz := bif_ok_t hz hc18
 refine W_skip (nm_then ?_)
 refine W_seq <|W_block <|W_seq <|W_reg <|WL_y (Y_move (.int .i64 y13) hT10_5) <|WL_y (Y_assign (.int .i64 y13) rfl) ?_
 refine WL_nil (nm_then ?_)
 refine W_seq <|W_reg <|WL_d 2 rfl <|WL_y (Y_fa fa48_0 hT10_1) ?_
 obtain ⟨u19, hx20, hz⟩ := bind_ok hz
 obtain ⟨hx20a, hx20b⟩ := inR_some hx20
 refine WL_y (Y_ixA ia45 rfl rfl hx20a hx20b) <|WL_y (Y_fa fa44_0 rfl) ?_
 obtain ⟨x21, hx22, hz⟩ := bind_ok hz
 refine WL_y (Y_ld1 (.int .i64 x21.state) ts3 rfl (hS.bvB 2 rfl) (GEntry.p0 (vp (k := 6) rfl rfl (GNode.p0 (rr hcx1)) hx22))) <|WL_y (Y_gtr rfl rfl) <|WL_y (Y_fa fa64_0 hT10_3) ?_
 obtain ⟨u23, hx24, hz⟩ := bind_ok hz
 obtain ⟨hx24a, hx24b⟩ := inR_some hx24
 refine WL_y (Y_ixA ia61 rfl rfl hx24a hx24b) ?_
 obtain ⟨x27, hx28, hz⟩ := bind_ok hz
 obtain ⟨a29, hx30, hz⟩ := bind_ok hz
 obtain ⟨d31, hd26, hz⟩ := bind_ok hz
 refine WL_c (O_sx 0 1 hS rfl hb11 rfl rfl (rb (decide (x21.state > 1)) : rep M9 _ _) rfl rfl (GGraph.u0 (rr hb11) (vu (k := 1) rfl rfl (GGraph.p0 (rr hb11)) (Lf (vp (k := 1) rfl rfl (GGraph.p0 (rr hb11)) hx28) (rb (decide (x21.state > 1)) : rep M9 _ _)) hx30)) hd26 ?_)
 intro cs26 w25 hb26 ha26 hs26 hS
 refine WL_nil (nm_then ?_)
 refine W_reg <|WL_d 2 rfl <|WL_y (Y_fa fa48_0 hT10_1) ?_
 obtain ⟨u32, hx33, hz⟩ := bind_ok hz
 obtain ⟨hx33a, hx33b⟩ := inR_some hx33
 refine WL_y (Y_ixA ia45 rfl rfl hx33a hx33b) <|WL_y (Y_fa fa44_3 rfl) ?_
 obtain ⟨x34, hx35, hz⟩ := bind_ok hz
 obtain ⟨v36, ev36, hv36⟩ := (GEntry.p3 (vp (k := 6) rfl rfl (GNode.p0 (rr hcx1)) hx35))
 refine WL_y (Y_ld1 v36 ts27 rfl (hS.bvB 2 rfl) ev36) <|WL_y (Y_fa fa64_1 hT10_3) ?_
 obtain ⟨u37, hx38, hz⟩ := bind_ok hz
 obtain ⟨hx38a, hx38b⟩ := inR_some hx38
 refine WL_y (Y_ixA ia62 rfl rfl hx38a hx38b) ?_
 obtain ⟨x41, hx42, hz⟩ := bind_ok hz
 obtain ⟨a43, hx44, hz⟩ := bind_ok hz
 obtain ⟨d45, hd40, hz⟩ := bind_ok hz
 refine WL_c (O_sx 0 1 hS rfl hb26 rfl rfl (repL_rep hv36) (repL_cells hv36) rfl (GGraph.u1 (rr hb26) (vu (k := 1) rfl rfl (GGraph.p1 (rr hb26)) (Lf (vp (k := 1) rfl rfl (GGraph.p1 (rr hb26)) hx42) (repL_rep hv36)) hx44)) hd40 ?_)
 intro cs40 w39 hb40 ha40 hs40 hS
 refine WL_nil (nm_blk ?_)
 refine (nm_then ?_)
 refine W_reg <|WL_y (Y_add hT10_5 rfl) <|WL_y (Y_move (.int .i64 (IntKind.wrap .i64 (y13 + 1))) rfl) ?_
 refine WL_nil (nm_then ?_)
 exact ⟨M9, cs40, d45, (IntKind.wrap .i64 (y13 + 1)), hF16, hS, hb40, hT10_1, hT10_2, hT10_3, rfl, (by rw [← hrec14]; exact hz)⟩
 replace hz := bif_ok_f hz hc18
 refine W_exit <|ex_then <|ex_then <|ex_hit ?_
 refine (nm_then ?_)
 refine W_seq <|W_reg ?_
 have ha46 := (rr hb11)
 refine WL_y (Y_ldn ta64 hT10_3 (hS.bvB 0 rfl) (Rep.len ha46)) ?_
 obtain ⟨d49, hd48, hz⟩ := bind_ok hz
 refine WL_c (O_sx 1 64 hS rfl zb5 hT10_2 rfl ha46 rfl rfl (Lf (rr zb5) ha46) hd48 ?_)
 intro cs48 w47 hb48 ha48 hs48 hS
 refine WL_nil (nm_then ?_)
 cases hz
 exact W_ret (R_c (j := 1) rfl hT10_2 (by rw [Rep.len hb48]; exact ta64) hS rfl (Gives.mk (St.dropB (St.dropB (St.dropB hS hb7) hb5) hb3) hE ⟨_, rfl, hb48⟩))
def graphOfXD (fu : Nat) (x1 : GNode) : Option GGraph :=
 (graphOfD fu x1).bind fun r9 =>
 (some r9).bind fun d12 =>
 some d12
set_option maxRecDepth 100000 in
set_option maxHeartbeats 4000000 in
theorem graphOfX_ok {M : Mm} {w : World} {cx1 : List Value} {x1 : GNode} {fu : Nat} {r : GGraph} (hA : Agree M w) (hcx1 : rep M cx1 x1) (hz : graphOfXD fu x1 = some r) :
    Calls Try.prog 35 #[.agg cx1.toArray] w (Gives M w (fun M' u => ∃ cs, u = .agg cs.toArray ∧ rep M' cs r)) := by
 refine calls_W Try.func35 rfl 5 rfl rfl (by kernel_rfl) fun T hT => ?_
 have hT_0 : T 0 = .agg cx1.toArray := hT 0
 clear hT
 have hE := Mm.ext.refl w.heap.size noX M
 have hS : St w noX M [] w := St.start hA
 rw [graphOfXD] at hz
 refine W_seq <|W_reg ?_
 refine WL_c (O_box (v := .agg cx1.toArray) (cs := cx1) hT_0 rfl hS ?_)
 intro b3 w2 hb3 hS
 refine WL_c (O_alloc tz64 hS ?_)
 intro b5 w4 hb5 hS
 have zb5 : rep M (Zr.zc GGraph) (Zr.zd : GGraph) := Zr.zr
 refine WL_nil (nm_then ?_)
 refine W_seq <|W_reg ?_
 have ha6 := (rr hcx1)
 refine WL_y (Y_ldn ta48 rfl (hS.bvB 1 rfl) (Rep.len ha6)) ?_
 obtain ⟨r9, hr8, hz⟩ := bind_ok hz
 refine WL_c (O_mem (vs := [.agg (sl cx1 (0) 201).toArray]) (rv := (fun M' u => ∃ cs, u = .agg cs.toArray ∧ rep M' cs r9)) cb58 (args1 rfl) hS (graphOf_ok hS.agree ha6 hr8) ?_)
 intro u8 M8 w7 hx8 hu8 hS
 obtain ⟨c8, hq8, f8⟩ := hu8
 subst hq8
 replace hcx1 := Rep.mono hx8.1 hcx1
 replace zb5 := Rep.mono hx8.1 zb5
 replace ha6 := Rep.mono hx8.1 ha6
 replace hE := Mm.ext.trans hE hx8
 obtain ⟨d12, hd11, hz⟩ := bind_ok hz
 refine WL_c (O_sx 0 64 hS rfl zb5 rfl rfl f8 rfl rfl (Lf (rr zb5) f8) hd11 ?_)
 intro cs11 w10 hb11 ha11 hs11 hS
 refine WL_nil (nm_then ?_)
 cases hz
 exact W_ret (R_c (j := 0) rfl rfl (by rw [Rep.len hb11]; exact ta64) hS rfl (Gives.mk (St.dropB (St.dropB hS hb5) hb3) hE ⟨_, rfl, hb11⟩))
def executeOne_j1 (y48 : Int) (rec49 : GEntry → GNode → Int → Option GNode) (d58 : GEntry) (d60 : GNode) : Option GNode :=
 rec49 d58 d60 (IntKind.wrap .i64 (y48 + 1))
def executeOne_j2 (y48 : Int) (rec49 : GEntry → GNode → Int → Option GNode) (d104 : GNode) (d112 : GEntry) : Option GNode :=
 executeOne_j1 y48 rec49 d112 d104
def executeOne_l1 (x3 : Int) (x4 : Int) (d30 : GEntry) : Nat → GEntry → GNode → Int → Option GNode
 | 0, _, _, _ => none
 | n + 1, d39, d41, y48 =>
 (bif decide (y48 < (d30.ops.length : Int)) then
 (idx d30.ops y48).bind fun x70 =>
 (some x70).bind fun d76 =>
 (some (shardZ d76.key)).bind fun r79 =>
 (bif r79 != x4 then
 executeOne_j1 y48 (executeOne_l1 x3 x4 d30 n) d39 d41
 else
 (inR d76.key 8).bind fun _ =>
 (idxV d41.values d76.key).bind fun x86 =>
 (some (doZ x86 d76)).bind fun r91 =>
 (inR d76.key 8).bind fun _ =>
 (idxV d41.values d76.key).bind fun x100 =>
 (setV d41.values d76.key r91).bind fun a102 =>
 (some ({ d41 with values := a102 } : GNode)).bind fun d104 =>
 (app d39.at_ ([y48] : List Int)).bind fun l128 =>
 (app d39.values ([r91] : List Int)).bind fun l133 =>
 (some ({ d39 with at_ := l128 } : GEntry)).bind fun d136 =>
 (some ({ d136 with values := l133 } : GEntry)).bind fun d141 =>
 executeOne_j2 y48 (executeOne_l1 x3 x4 d30 n) d104 d141)
 else
 (inR x3 32).bind fun _ =>
 (idxV d41.entries x3).bind fun x165 =>
 (setV d41.entries x3 d39).bind fun a167 =>
 (some ({ d41 with entries := a167 } : GNode)).bind fun d169 =>
 (app d169.order ([x3] : List Int)).bind fun l180 =>
 (some ({ d169 with order := l180 } : GNode)).bind fun d183 =>
 some d183)
def executeOneD (fu : Nat) (x1 : GNode) (x3 : Int) (x4 : Int) : Option GNode :=
 (inR x3 32).bind fun _ =>
 (idxV x1.entries x3).bind fun x7 =>
 (some x7).bind fun d18 =>
 (some ({ d18 with state := 3 } : GEntry)).bind fun d21 =>
 (some ({ d21 with at_ := [] } : GEntry)).bind fun d25 =>
 (some ({ d25 with values := [] } : GEntry)).bind fun d30 =>
 executeOne_l1 x3 x4 d30 fu d30 x1 0
set_option maxRecDepth 100000 in
set_option maxHeartbeats 4000000 in
theorem executeOne_ok {M : Mm} {w : World} {bx1 : Nat} {cx1 : List Value} {ux1_1 : Value} {x1 : GNode} {x3 : Int} {x4 : Int} {fu : Nat} {r : GNode} (hS : St w (lentX [.box bx1 cx1 48, .row ux1_1 3 1]) M [.box bx1 cx1 48, .row ux1_1 3 1] w) (hcx1 : rep M cx1 x1) (hpx1_1 : sl cx1 192 1 = [ux1_1]) (hz : executeOneD fu x1 x3 x4 = some r) :
    Calls Try.prog 60 #[.pointer (some ⟨bx1, 0, none⟩), .int .i64 x3, .int .i64 x4] w (GivesL M w [.box bx1 cx1 48, .row ux1_1 3 1] (fun M' u L' => ∃ k0 u1, u = .tuple #[] ∧ L' = [.box bx1 k0 48, .row u1 3 1] ∧ rep M' k0 r ∧ sl k0 192 1 = [u1])) := by
 refine calls_W Try.func60 rfl 77 rfl rfl (by kernel_rfl) fun T hT => ?_
 have hT_0 : T 0 = .pointer (some ⟨bx1, 0, none⟩) := hT 0
 have hT_1 : T 1 = .int .i64 x3 := hT 1
 have hT_2 : T 2 = .int .i64 x4 := hT 2
 clear hT
 have hE := Mm.ext.refl w.heap.size (lentX [.box bx1 cx1 48, .row ux1_1 3 1]) M
 rw [executeOneD] at hz
 refine W_seq <|W_reg <|WL_y (Y_move (.pointer (some ⟨bx1, 0, none⟩)) hT_0) <|WL_y (Y_move (.int .i64 x3) hT_1) <|WL_y (Y_nil rfl) <|WL_y (Y_fa fa48_0 rfl) ?_
 obtain ⟨u5, hx6, hz⟩ := bind_ok hz
 obtain ⟨hx6a, hx6b⟩ := inR_some hx6
 refine WL_y (Y_ixA ia45 rfl rfl hx6a hx6b) ?_
 obtain ⟨x7, hx8, hz⟩ := bind_ok hz
 have ha9 := (vp (k := 6) rfl rfl (GNode.p0 (rr hcx1)) hx8)
 refine WL_y (Y_ldn ta44 rfl (hS.bvB 0 rfl) (Rep.len ha9)) ?_
 refine WL_c (O_alloc tz44 hS ?_)
 intro b11 w10 hb11 hS
 have zb11 : rep M (Zr.zc GEntry) (Zr.zd : GEntry) := Zr.zr
 have hp12 : sl (Zr.zc GEntry) 4 1 = [.slice none 0 0] := by rfl
 replace hS := hS.nilRow 3 1
 have hp14 : sl (Zr.zc GEntry) 5 1 = [.slice none 0 0] := by rfl
 replace hS := hS.nilRow 3 1
 obtain ⟨d18, hd17, hz⟩ := bind_ok hz
 refine WL_c (O_sx 2 6 hS rfl zb11 rfl rfl ha9 rfl rfl (Lf (rr zb11) ha9) hd17 ?_)
 intro cs17 w16 hb17 ha17 hs17 hS
 refine WL_nil (nm_then ?_)
 refine W_seq <|W_reg <|WL_y (Y_fa fa44_0 rfl) ?_
 obtain ⟨d21, hd20, hz⟩ := bind_ok hz
 refine WL_c (O_sx 2 1 hS rfl hb17 rfl rfl (ri 3 : rep M _ _) rfl rfl (GEntry.u0 (rr hb17) (Lf (GEntry.p0 (rr hb17)) (ri 3 : rep M _ _))) hd20 ?_)
 intro cs20 w19 hb20 ha20 hs20 hS
 refine WL_y (Y_fa fa44_4 rfl) ?_
 replace hS := hS.nilRow 3 1
 obtain ⟨d25, hd24, hz⟩ := bind_ok hz
 refine WL_c (O_sx 3 1 hS rfl hb20 rfl rfl (show rep M [Value.slice none 0 0] ([] : List Int) from repL_rep (repL_nil _)) rfl rfl (GEntry.u4 (rr hb20) (Lf (GEntry.p4 (rr hb20)) (show rep M [Value.slice none 0 0] ([] : List Int) from repL_rep (repL_nil _)))) hd24 ?_)
 intro cs24 w22 hb24 ha24 hs24 hS
 have hp26 := hs24
 refine WL_y (Y_fa fa44_5 rfl) ?_
 replace hS := hS.nilRow 3 1
 obtain ⟨d30, hd29, hz⟩ := bind_ok hz
 refine WL_c (O_sx 4 1 hS rfl hb24 rfl rfl (show rep M [Value.slice none 0 0] ([] : List Int) from repL_rep (repL_nil _)) rfl rfl (GEntry.u5 (rr hb24) (Lf (GEntry.p5 (rr hb24)) (show rep M [Value.slice none 0 0] ([] : List Int) from repL_rep (repL_nil _)))) hd29 ?_)
 intro cs29 w27 hb29 ha29 hs29 hS
 have hp31 := (ha29 (by omega)).trans hp26
 have hp32 := hs29
 refine WL_nil (nm_then ?_)
 refine W_seq <|W_seq <|W_reg <|WL_y (Y_fa fa44_1 rfl) ?_
 obtain ⟨v33, ev33, hv33⟩ := (GEntry.p1 (rr hb29))
 refine WL_y (Y_ld1 v33 ts22 rfl (hS.bvB 4 rfl) ev33) ?_
 obtain ⟨a34, c34, hv34, _⟩ := repL_shape hv33
 refine WL_y (Y_lenL Try.underlying22 (tr2 hv34 rfl)) <|WL_y (Y_move (.int .i64 0) rfl) ?_
 refine WL_nil (nm_then ?_)
 refine W_block ?_
 refine W_loop (fun k50 T' w' => ∃ M36 cs38 d39 cs40 d41 v42 v44 v46 y48, Mm.ext w.heap.size (lentX [.box bx1 cx1 48, .row ux1_1 3 1]) M M36 ∧ St w (lentX [.box bx1 cx1 48, .row ux1_1 3 1]) M36 [.row v46 3 1, .row v44 3 1, .row (.slice none 0 0) 3 1, .row (.slice none 0 0) 3 1, .box b11 cs38 44, .box bx1 cs40 48, .row v42 3 1] w' ∧ rep M36 cs38 d39 ∧ rep M36 cs40 d41 ∧ sl cs40 (0 + 192) 1 = [v42] ∧ sl cs38 (0 + 4) 1 = [v44] ∧ sl cs38 (0 + 5) 1 = [v46] ∧ T' 0 = .pointer (some ⟨bx1, 0, none⟩) ∧ T' 1 = .int .i64 x3 ∧ T' 2 = .int .i64 x4 ∧ T' 6 = .pointer (some ⟨b11, 0, none⟩) ∧ T' 20 = v33 ∧ T' 21 = .int .i64 (d30.ops.length : Int) ∧ T' 22 = .int .i64 y48 ∧ executeOne_l1 x3 x4 d30 k50 d39 d41 y48 = some r) fu ?_ ?_ ?_
 exact ⟨M, cs29, d30, cx1, x1, ux1_1, (.slice none 0 0), (.slice none 0 0), (0 : Int), (Mm.ext.refl _ _ _), hS, hb29, hcx1, hpx1_1, hp31, hp32, hT_0, hT_1, hT_2, rfl, rfl, rfl, rfl, hz⟩
 rintro T' w' ⟨_, _, _, _, _, _, _, _, _, _, _, _, _, _, _, _, _, _, _, _, _, _, _, hz⟩
 rw [executeOne_l1] at hz
 cases hz
 intro k50
 rintro T37 w35 ⟨M36, cs38, d39, cs40, d41, v42, v44, v46, y48, hx52, hS, hb38, hb40, hp43, hp45, hp47, hT37_0, hT37_1, hT37_2, hT37_6, hT37_20, hT37_21, hT37_22, hz⟩
 replace hv33 := repL.mono hx52.1 hv33
 replace hE := Mm.ext.trans hE hx52
 have hF51 := hx52
 rw [executeOne_l1] at hz
 obtain ⟨rec49, hrec49⟩ : ∃ f, f = executeOne_l1 x3 x4 d30 k50 := ⟨_, rfl⟩
 rw [← hrec49] at hz
 refine W_seq <|W_reg <|WL_y (Y_lss hT37_22 hT37_21) ?_
 refine WL_nil (nm_then ?_)
 refine W_seq ?_
 refine W_cond rfl (fun hc53 => ?_) (fun hc53 => ?_)
 replace hz := bif_ok_t hz hc53
 refine W_skip (nm_then ?_)
 refine W_seqJ (fun T' w' => ∃ M55 cs57 d58 cs59 d60 v61 v63 v65, Mm.ext w.heap.size (lentX [.box bx1 cx1 48, .row ux1_1 3 1]) M36 M55 ∧ St w (lentX [.box bx1 cx1 48, .row ux1_1 3 1]) M55 [.row v65 3 1, .row v63 3 1, .row (.slice none 0 0) 3 1, .row (.slice none 0 0) 3 1, .box b11 cs57 44, .box bx1 cs59 48, .row v61 3 1] w' ∧ rep M55 cs57 d58 ∧ rep M55 cs59 d60 ∧ sl cs59 (0 + 192) 1 = [v61] ∧ sl cs57 (0 + 4) 1 = [v63] ∧ sl cs57 (0 + 5) 1 = [v65] ∧ T' 0 = .pointer (some ⟨bx1, 0, none⟩) ∧ T' 1 = .int .i64 x3 ∧ T' 2 = .int .i64 x4 ∧ T' 6 = .pointer (some ⟨b11, 0, none⟩) ∧ T' 20 = v33 ∧ T' 21 = .int .i64 (d30.ops.length : Int) ∧ T' 22 = .int .i64 y48 ∧ executeOne_j1 y48 rec49 d58 d60 = some r) ?_ ?_
 have hF68 := Mm.ext.refl w.heap.size (lentX [.box bx1 cx1 48, .row ux1_1 3 1]) M36
 refine W_block <|W_seq <|W_reg <|WL_y (Y_move (.int .i64 y48) hT37_22) ?_
 obtain ⟨x70, hx69, hz⟩ := bind_ok hz
 obtain ⟨b69, o69, c69, p69, hv69, hi69, hj69, hM69, hr69⟩ := repL_at hv33 hx69
 replace hr69 : rep _ (sl p69 (o69 + Int.toNat y48 * 3) 3) x70 := hr69
 refine WL_y (Y_ixL il22 hT37_20 hv69 hT37_22 hi69 hj69) ?_
 have ha71 := hr69
 refine WL_y (Y_ldn ta78 rfl (hS.bvM hM69) (Rep.len ha71)) ?_
 refine WL_c (O_alloc tz78 hS ?_)
 intro b73 w72 hb73 hS
 have zb73 : rep M36 (Zr.zc GOp) (Zr.zd : GOp) := Zr.zr
 refine WL_y (Y_assign (.int .i64 y48) rfl) ?_
 obtain ⟨d76, hd75, hz⟩ := bind_ok hz
 refine WL_c (O_sx 0 3 hS rfl zb73 rfl rfl ha71 rfl rfl (Lf (rr zb73) ha71) hd75 ?_)
 intro cs75 w74 hb75 ha75 hs75 hS
 refine WL_nil (nm_then ?_)
 refine W_seq <|W_seq <|W_reg <|WL_y (Y_fa fa78_1 rfl) <|WL_y (Y_ld1 (.int .i64 d76.key) ts3 rfl (hS.bvB 0 rfl) (GOp.p1 (rr hb75))) ?_
 obtain ⟨r79, hr78, hz⟩ := bind_ok hz
 replace hr78 := Option.some.inj hr78
 refine WL_c (O_val (vs := [.int .i64 d76.key]) (v := .int .i64 r79) cb76 (args1 rfl) hS (hr78 ▸ (c_shardOf)) ?_)
 intro w77 hS
 refine WL_y (Y_move (.int .i64 x4) hT37_2) <|WL_y (Y_neq rfl rfl) ?_
 refine WL_nil (nm_then ?_)
 refine W_cond rfl (fun hc80 => ?_) (fun hc80 => ?_)
 replace hz := bif_ok_t hz hc80
 refine W_exit <|ex_then <|ex_hit ?_
 refine (nm_then ?_)
 exact ⟨M36, cs38, d39, cs40, d41, v42, v44, v46, hF68, (St.dropB hS hb73), hb38, hb40, hp43, hp45, hp47, hT37_0, hT37_1, hT37_2, hT37_6, hT37_20, hT37_21, hT37_22, hz⟩
 replace hz := bif_ok_f hz hc80
 refine W_skip (nm_then ?_)
 refine W_seq <|W_drawB (Rd M36 [.box b73 cs75 78, .box bx1 cs40 48]) (inL []) mixed hS fun w81 hS => ?_
 have hG82 := Mm.ext.refl w.heap.size (lentX [.box bx1 cx1 48, .row ux1_1 3 1]) M36
 have hR83 : Rd M36 [.box b73 cs75 78, .box bx1 cs40 48] w81 := Rd.of hS hG82 (by simp)
 refine WB_y (i := 0) rfl (by kernel_rfl) rfl (Y_move (.pointer (some ⟨bx1, 0, none⟩)) hT37_0) (fun _ => hR83) <|WB_y (i := 1) rfl (by kernel_rfl) rfl (Y_fa fa78_1 rfl) (fun _ => hR83) <|WB_ld (i := 2) rfl (by kernel_rfl) rfl (inL_lt rfl) (by kernel_rfl) (by kernel_rfl) (Y_ld1 (.int .i64 d76.key) ts3 rfl (bvR 0 rfl) (GOp.p1 (rr hb75))) hR83 <|WB_y (i := 3) rfl (by kernel_rfl) rfl (Y_nil rfl) (fun _ => hR83) <|WB_y (i := 4) rfl (by kernel_rfl) rfl (Y_fa fa48_2 rfl) (fun _ => hR83) ?_
 obtain ⟨u84, hx85, hz⟩ := bind_ok hz
 obtain ⟨hx85a, hx85b⟩ := inR_some hx85
 refine WB_y (i := 5) rfl (by kernel_rfl) rfl (Y_ixA ia46 rfl rfl hx85a hx85b) (fun _ => hR83) ?_
 obtain ⟨x86, hx87, hz⟩ := bind_ok hz
 refine WB_ld (i := 6) rfl (by kernel_rfl) rfl (inL_lt rfl) (by kernel_rfl) (by kernel_rfl) (Y_ld1 (.int .i64 x86) ts3 rfl (bvR 1 rfl) (vp (k := 1) rfl rfl (GNode.p2 (rr hb40)) hx87)) hR83 ?_
 have ha88 := (rr hb75)
 refine WB_ld (i := 7) rfl (by kernel_rfl) rfl (inL_lt rfl) (by kernel_rfl) (by kernel_rfl) (Y_ldn ta78 rfl (bvR 0 rfl) (Rep.len ha88)) hR83 ?_
 obtain ⟨r91, hr90, hz⟩ := bind_ok hz
 replace hr90 := Option.some.inj hr90
 refine WB_one (i := 8) (by kernel_rfl) rfl (O_val (vs := [.int .i64 x86, .agg (sl cs75 (0) 3).toArray]) (v := .int .i64 r91) cb80 (args2 rfl rfl) hS (hr90 ▸ (c_doOp hS.agree ha88)) ?_)
 intro w89 hS
 have hR92 : Rd M36 [.box b73 cs75 78, .box bx1 cs40 48] w89 := Rd.of hS hG82 (by simp)
 refine ⟨fun _ => hR92, ?_⟩
 refine WB_y (i := 9) rfl (by kernel_rfl) rfl (Y_assign (.int .i64 r91) rfl) (fun _ => hR92) ?_
 refine WB_done (by kernel_rfl) (nm_then ?_)
 refine W_seq <|W_drawB (Rd M36 [.box b73 cs75 78]) (inL []) mixed hS fun w93 hS => ?_
 have hG94 := Mm.ext.refl w.heap.size (lentX [.box bx1 cx1 48, .row ux1_1 3 1]) M36
 have hR95 : Rd M36 [.box b73 cs75 78] w93 := Rd.of hS hG94 (by simp)
 refine WB_y (i := 0) rfl (by kernel_rfl) rfl (Y_move (.pointer (some ⟨bx1, 0, none⟩)) hT37_0) (fun _ => hR95) <|WB_y (i := 1) rfl (by kernel_rfl) rfl (Y_fa fa78_1 rfl) (fun _ => hR95) <|WB_ld (i := 2) rfl (by kernel_rfl) rfl (inL_lt rfl) (by kernel_rfl) (by kernel_rfl) (Y_ld1 (.int .i64 d76.key) ts3 rfl (bvR 0 rfl) (GOp.p1 (rr hb75))) hR95 <|WB_y (i := 3) rfl (by kernel_rfl) rfl (Y_move (.int .i64 r91) rfl) (fun _ => hR95) <|WB_y (i := 4) rfl (by kernel_rfl) rfl (Y_nil rfl) (fun _ => hR95) <|WB_y (i := 5) rfl (by kernel_rfl) rfl (Y_fa fa48_2 rfl) (fun _ => hR95) ?_
 obtain ⟨u96, hx97, hz⟩ := bind_ok hz
 obtain ⟨hx97a, hx97b⟩ := inR_some hx97
 refine WB_y (i := 6) rfl (by kernel_rfl) rfl (Y_ixA ia46 rfl rfl hx97a hx97b) (fun _ => hR95) ?_
 obtain ⟨x100, hx101, hz⟩ := bind_ok hz
 obtain ⟨a102, hx103, hz⟩ := bind_ok hz
 obtain ⟨d104, hd99, hz⟩ := bind_ok hz
 have hq106 := (idxV_some hx101)
 refine WB_one (i := 7) (by kernel_rfl) rfl (O_sx 6 1 hS rfl hb40 rfl rfl (ri r91 : rep M36 _ _) rfl rfl (GNode.u2 (rr hb40) (vu (k := 1) rfl rfl (GNode.p2 (rr hb40)) (Lf (vp (k := 1) rfl rfl (GNode.p2 (rr hb40)) hx101) (ri r91 : rep M36 _ _)) hx103)) hd99 ?_)
 intro cs99 w98 hb99 ha99 hs99 hS
 have hp105 := (ha99 (by omega)).trans hp43
 have hR107 : Rd M36 [.box b73 cs75 78] w98 := Rd.of hS hG94 (by simp)
 refine ⟨fun _ => hR107, ?_⟩
 refine WB_done (by kernel_rfl) (nm_then ?_)
 refine W_J (fun T' w' => ∃ M109 cs111 d112 v113 v115, Mm.ext w.heap.size (lentX [.box bx1 cx1 48, .row ux1_1 3 1]) M36 M109 ∧ St w (lentX [.box bx1 cx1 48, .row ux1_1 3 1]) M109 [.box b73 cs75 78, .row v115 3 1, .row v113 3 1, .row (.slice none 0 0) 3 1, .row (.slice none 0 0) 3 1, .box b11 cs111 44, .box bx1 cs99 48, .row v42 3 1] w' ∧ rep M109 cs111 d112 ∧ sl cs111 (0 + 4) 1 = [v113] ∧ sl cs111 (0 + 5) 1 = [v115] ∧ T' 0 = .pointer (some ⟨bx1, 0, none⟩) ∧ T' 1 = .int .i64 x3 ∧ T' 2 = .int .i64 x4 ∧ T' 6 = .pointer (some ⟨b11, 0, none⟩) ∧ T' 20 = v33 ∧ T' 21 = .int .i64 (d30.ops.length : Int) ∧ T' 22 = .int .i64 y48 ∧ executeOne_j2 y48 rec49 d104 d112 = some r) ?_ ?_
 have hF118 := Mm.ext.refl w.heap.size (lentX [.box bx1 cx1 48, .row ux1_1 3 1]) M36
 refine W_drawB (Rd M36 [.box b11 cs38 44]) (inL [11, 13]) mixed hS fun w119 hS => ?_
 have hG120 := Mm.ext.refl w.heap.size (lentX [.box bx1 cx1 48, .row ux1_1 3 1]) M36
 have hR121 : Rd M36 [.box b11 cs38 44] w119 := Rd.of hS hG120 (by simp)
 refine WB_y (i := 0) rfl (by kernel_rfl) rfl (Y_fa fa44_4 hT37_6) (fun _ => hR121) ?_
 obtain ⟨v122, ev122, hv122⟩ := (GEntry.p4 (rr hb38))
 rw [sl_one_eq ev122 hp45] at hv122
 refine WB_ld (i := 1) rfl (by kernel_rfl) rfl (inL_lt rfl) (by kernel_rfl) (by kernel_rfl) (Y_ld1 v44 ts27 rfl (bvR 0 rfl) hp45) hR121 <|WB_y (i := 2) rfl (by kernel_rfl) rfl (Y_move (.int .i64 y48) rfl) (fun _ => hR121) <|WB_y (i := 5) rfl (by kernel_rfl) rfl (Y_fa fa44_5 hT37_6) (fun _ => hR121) ?_
 obtain ⟨v123, ev123, hv123⟩ := (GEntry.p5 (rr hb38))
 rw [sl_one_eq ev123 hp47] at hv123
 refine WB_ld (i := 6) rfl (by kernel_rfl) rfl (inL_lt rfl) (by kernel_rfl) (by kernel_rfl) (Y_ld1 v46 ts27 rfl (bvR 0 rfl) hp47) hR121 <|WB_y (i := 7) rfl (by kernel_rfl) rfl (Y_move (.int .i64 r91) rfl) (fun _ => hR121) ?_
 obtain ⟨l128, hr127, hz⟩ := bind_ok hz
 obtain ⟨l133, hr132, hz⟩ := bind_ok hz
 obtain ⟨d136, hd135, hz⟩ := bind_ok hz
 obtain ⟨d141, hd140, hz⟩ := bind_ok hz
 refine WB_two (i := 3) (j := 8) (by kernel_rfl) rfl rfl (O_bslice (α := Int) (l := ([y48] : List Int)) [.int .i64 y48] tl27 (bpc rfl bp0) rfl rfl (by decide) (by decide) (by decide) hS (brc (ri y48 : rep M36 _ _) br0) ?_) (O_bslice (α := Int) (l := ([r91] : List Int)) [.int .i64 r91] tl27 (bpc rfl bp0) rfl rfl (by decide) (by decide) (by decide) hS (brc (ri r91 : rep M36 _ _) br0) ?_)
 intro v125 M125 w124 hx125 hv125 hS
 replace hv33 := repL.mono hx125.1 hv33
 replace hb38 := Rep.mono hx125.1 hb38
 replace hb75 := Rep.mono hx125.1 hb75
 replace hb99 := Rep.mono hx125.1 hb99
 replace hv122 := repL.mono hx125.1 hv122
 replace hv123 := repL.mono hx125.1 hv123
 replace hE := Mm.ext.trans hE hx125
 replace hF51 := Mm.ext.trans hF51 hx125
 replace hF68 := Mm.ext.trans hF68 hx125
 replace hF118 := Mm.ext.trans hF118 hx125
 replace hG120 := Mm.ext.trans hG120 hx125
 have hR144 : Rd M36 [.box b11 cs38 44] w124 := Rd.of hS hG120 (by simp)
 refine ⟨fun _ => hR144, ?_⟩
 obtain ⟨hy127, hs127⟩ := app_some hr127
 refine WB_two (i := 4) (j := 8) (by kernel_rfl) rfl rfl (O_app (α := Int) (j := 2) tp27 hS rfl rfl rfl hv122 hv125 hy127 ?_) (O_bslice (α := Int) (l := ([r91] : List Int)) [.int .i64 r91] tl27 (bpc rfl bp0) rfl rfl (by decide) (by decide) (by decide) hS (brc (ri r91 : rep M125 _ _) br0) ?_)
 intro v127 M127 w126 hx127 hv127 hS
 rw [← hs127] at hv127
 clear hr127 hs127
 replace hv33 := repL.mono hx127.1 hv33
 replace hb38 := Rep.mono hx127.1 hb38
 replace hb75 := Rep.mono hx127.1 hb75
 replace hb99 := Rep.mono hx127.1 hb99
 replace hv122 := repL.mono hx127.1 hv122
 replace hv123 := repL.mono hx127.1 hv123
 replace hv125 := repL.mono hx127.1 hv125
 replace hE := Mm.ext.trans hE hx127
 replace hF51 := Mm.ext.trans hF51 hx127
 replace hF68 := Mm.ext.trans hF68 hx127
 replace hF118 := Mm.ext.trans hF118 hx127
 replace hG120 := Mm.ext.trans hG120 hx127
 have hR145 : Rd M36 [.box b11 cs38 44] w126 := Rd.of hS hG120 (by simp)
 refine ⟨fun _ => hR145, ?_⟩
 refine WB_y (i := 10) rfl (by kernel_rfl) rfl (Y_fa fa44_4 hT37_6) (fun _ => hR145) ?_
 refine WB_one (i := 8) (by kernel_rfl) rfl (O_bslice (α := Int) (l := ([r91] : List Int)) [.int .i64 r91] tl27 (bpc rfl bp0) rfl rfl (by decide) (by decide) (by decide) hS (brc (ri r91 : rep M127 _ _) br0) ?_)
 intro v130 M130 w129 hx130 hv130 hS
 replace hv33 := repL.mono hx130.1 hv33
 replace hb38 := Rep.mono hx130.1 hb38
 replace hb75 := Rep.mono hx130.1 hb75
 replace hb99 := Rep.mono hx130.1 hb99
 replace hv122 := repL.mono hx130.1 hv122
 replace hv123 := repL.mono hx130.1 hv123
 replace hv125 := repL.mono hx130.1 hv125
 replace hv127 := repL.mono hx130.1 hv127
 replace hE := Mm.ext.trans hE hx130
 replace hF51 := Mm.ext.trans hF51 hx130
 replace hF68 := Mm.ext.trans hF68 hx130
 replace hF118 := Mm.ext.trans hF118 hx130
 replace hG120 := Mm.ext.trans hG120 hx130
 have hR146 : Rd M36 [.box b11 cs38 44] w129 := Rd.of hS hG120 (by simp)
 refine ⟨fun _ => hR146, ?_⟩
 obtain ⟨hy132, hs132⟩ := app_some hr132
 refine WB_one (i := 9) (by kernel_rfl) rfl (O_app (α := Int) (j := 1) tp27 hS rfl rfl rfl hv123 hv130 hy132 ?_)
 intro v132 M132 w131 hx132 hv132 hS
 rw [← hs132] at hv132
 clear hr132 hs132
 replace hv33 := repL.mono hx132.1 hv33
 replace hb38 := Rep.mono hx132.1 hb38
 replace hb75 := Rep.mono hx132.1 hb75
 replace hb99 := Rep.mono hx132.1 hb99
 replace hv122 := repL.mono hx132.1 hv122
 replace hv123 := repL.mono hx132.1 hv123
 replace hv125 := repL.mono hx132.1 hv125
 replace hv127 := repL.mono hx132.1 hv127
 replace hv130 := repL.mono hx132.1 hv130
 replace hE := Mm.ext.trans hE hx132
 replace hF51 := Mm.ext.trans hF51 hx132
 replace hF68 := Mm.ext.trans hF68 hx132
 replace hF118 := Mm.ext.trans hF118 hx132
 replace hG120 := Mm.ext.trans hG120 hx132
 have hR147 : Rd M36 [.box b11 cs38 44] w131 := Rd.of hS hG120 (by simp)
 refine ⟨fun _ => hR147, ?_⟩
 refine WB_one (i := 11) (by kernel_rfl) rfl (O_sx 5 1 hS rfl hb38 rfl rfl (repL_rep hv127) (repL_cells hv127) rfl (GEntry.u4 (rr hb38) (Lf (GEntry.p4 (rr hb38)) (repL_rep hv127))) hd135 ?_)
 intro cs135 w134 hb135 ha135 hs135 hS
 have hp137 := (ha135 (by omega)).trans hp47
 have hp138 := hs135
 refine ⟨fun h => Bool.noConfusion (show false = true from h), ?_⟩
 refine WB_y (i := 12) rfl (by kernel_rfl) rfl (Y_fa fa44_5 hT37_6) (fun h => Bool.noConfusion (show false = true from h)) ?_
 refine WB_one (i := 13) (by kernel_rfl) rfl (O_sx 5 1 hS rfl hb135 rfl rfl (repL_rep hv132) (repL_cells hv132) rfl (GEntry.u5 (rr hb135) (Lf (GEntry.p5 (rr hb135)) (repL_rep hv132))) hd140 ?_)
 intro cs140 w139 hb140 ha140 hs140 hS
 have hp142 := (ha140 (by omega)).trans hp138
 have hp143 := hs140
 refine ⟨fun h => Bool.noConfusion (show false = true from h), ?_⟩
 refine WB_done (by kernel_rfl) (nm_then ?_)
 exact ⟨M132, cs140, d141, v127, v132, hF118, hS, hb140, hp142, hp143, hT37_0, hT37_1, hT37_2, hT37_6, hT37_20, hT37_21, hT37_22, hz⟩
 intro v130 M130 w129 hx130 hv130 hS
 replace hv33 := repL.mono hx130.1 hv33
 replace hb38 := Rep.mono hx130.1 hb38
 replace hb75 := Rep.mono hx130.1 hb75
 replace hb99 := Rep.mono hx130.1 hb99
 replace hv122 := repL.mono hx130.1 hv122
 replace hv123 := repL.mono hx130.1 hv123
 replace hv125 := repL.mono hx130.1 hv125
 replace hE := Mm.ext.trans hE hx130
 replace hF51 := Mm.ext.trans hF51 hx130
 replace hF68 := Mm.ext.trans hF68 hx130
 replace hF118 := Mm.ext.trans hF118 hx130
 replace hG120 := Mm.ext.trans hG120 hx130
 have hR148 : Rd M36 [.box b11 cs38 44] w129 := Rd.of hS hG120 (by simp)
 refine ⟨fun _ => hR148, ?_⟩
 obtain ⟨hy127, hs127⟩ := app_some hr127
 refine WB_one (i := 4) (by kernel_rfl) rfl (O_app (α := Int) (j := 2) tp27 hS rfl rfl rfl hv122 hv125 hy127 ?_)
 intro v127 M127 w126 hx127 hv127 hS
 rw [← hs127] at hv127
 clear hr127 hs127
 replace hv33 := repL.mono hx127.1 hv33
 replace hb38 := Rep.mono hx127.1 hb38
 replace hb75 := Rep.mono hx127.1 hb75
 replace hb99 := Rep.mono hx127.1 hb99
 replace hv122 := repL.mono hx127.1 hv122
 replace hv123 := repL.mono hx127.1 hv123
 replace hv125 := repL.mono hx127.1 hv125
 replace hv130 := repL.mono hx127.1 hv130
 replace hE := Mm.ext.trans hE hx127
 replace hF51 := Mm.ext.trans hF51 hx127
 replace hF68 := Mm.ext.trans hF68 hx127
 replace hF118 := Mm.ext.trans hF118 hx127
 replace hG120 := Mm.ext.trans hG120 hx127
 have hR149 : Rd M36 [.box b11 cs38 44] w126 := Rd.of hS hG120 (by simp)
 refine ⟨fun _ => hR149, ?_⟩
 refine WB_y (i := 10) rfl (by kernel_rfl) rfl (Y_fa fa44_4 hT37_6) (fun _ => hR149) ?_
 obtain ⟨hy132, hs132⟩ := app_some hr132
 refine WB_one (i := 9) (by kernel_rfl) rfl (O_app (α := Int) (j := 1) tp27 hS rfl rfl rfl hv123 hv130 hy132 ?_)
 intro v132 M132 w131 hx132 hv132 hS
 rw [← hs132] at hv132
 clear hr132 hs132
 replace hv33 := repL.mono hx132.1 hv33
 replace hb38 := Rep.mono hx132.1 hb38
 replace hb75 := Rep.mono hx132.1 hb75
 replace hb99 := Rep.mono hx132.1 hb99
 replace hv122 := repL.mono hx132.1 hv122
 replace hv123 := repL.mono hx132.1 hv123
 replace hv125 := repL.mono hx132.1 hv125
 replace hv130 := repL.mono hx132.1 hv130
 replace hv127 := repL.mono hx132.1 hv127
 replace hE := Mm.ext.trans hE hx132
 replace hF51 := Mm.ext.trans hF51 hx132
 replace hF68 := Mm.ext.trans hF68 hx132
 replace hF118 := Mm.ext.trans hF118 hx132
 replace hG120 := Mm.ext.trans hG120 hx132
 have hR150 : Rd M36 [.box b11 cs38 44] w131 := Rd.of hS hG120 (by simp)
 refine ⟨fun _ => hR150, ?_⟩
 refine WB_one (i := 11) (by kernel_rfl) rfl (O_sx 5 1 hS rfl hb38 rfl rfl (repL_rep hv127) (repL_cells hv127) rfl (GEntry.u4 (rr hb38) (Lf (GEntry.p4 (rr hb38)) (repL_rep hv127))) hd135 ?_)
 intro cs135 w134 hb135 ha135 hs135 hS
 have hp137 := (ha135 (by omega)).trans hp47
 have hp138 := hs135
 refine ⟨fun h => Bool.noConfusion (show false = true from h), ?_⟩
 refine WB_y (i := 12) rfl (by kernel_rfl) rfl (Y_fa fa44_5 hT37_6) (fun h => Bool.noConfusion (show false = true from h)) ?_
 refine WB_one (i := 13) (by kernel_rfl) rfl (O_sx 5 1 hS rfl hb135 rfl rfl (repL_rep hv132) (repL_cells hv132) rfl (GEntry.u5 (rr hb135) (Lf (GEntry.p5 (rr hb135)) (repL_rep hv132))) hd140 ?_)
 intro cs140 w139 hb140 ha140 hs140 hS
 have hp142 := (ha140 (by omega)).trans hp138
 have hp143 := hs140
 refine ⟨fun h => Bool.noConfusion (show false = true from h), ?_⟩
 refine WB_done (by kernel_rfl) (nm_then ?_)
 exact ⟨M132, cs140, d141, v127, v132, hF118, hS, hb140, hp142, hp143, hT37_0, hT37_1, hT37_2, hT37_6, hT37_20, hT37_21, hT37_22, hz⟩
 intro v130 M130 w129 hx130 hv130 hS
 replace hv33 := repL.mono hx130.1 hv33
 replace hb38 := Rep.mono hx130.1 hb38
 replace hb75 := Rep.mono hx130.1 hb75
 replace hb99 := Rep.mono hx130.1 hb99
 replace hv122 := repL.mono hx130.1 hv122
 replace hv123 := repL.mono hx130.1 hv123
 replace hE := Mm.ext.trans hE hx130
 replace hF51 := Mm.ext.trans hF51 hx130
 replace hF68 := Mm.ext.trans hF68 hx130
 replace hF118 := Mm.ext.trans hF118 hx130
 replace hG120 := Mm.ext.trans hG120 hx130
 have hR151 : Rd M36 [.box b11 cs38 44] w129 := Rd.of hS hG120 (by simp)
 refine ⟨fun _ => hR151, ?_⟩
 refine WB_one (i := 3) (by kernel_rfl) rfl (O_bslice (α := Int) (l := ([y48] : List Int)) [.int .i64 y48] tl27 (bpc rfl bp0) rfl rfl (by decide) (by decide) (by decide) hS (brc (ri y48 : rep M130 _ _) br0) ?_)
 intro v125 M125 w124 hx125 hv125 hS
 replace hv33 := repL.mono hx125.1 hv33
 replace hb38 := Rep.mono hx125.1 hb38
 replace hb75 := Rep.mono hx125.1 hb75
 replace hb99 := Rep.mono hx125.1 hb99
 replace hv122 := repL.mono hx125.1 hv122
 replace hv123 := repL.mono hx125.1 hv123
 replace hv130 := repL.mono hx125.1 hv130
 replace hE := Mm.ext.trans hE hx125
 replace hF51 := Mm.ext.trans hF51 hx125
 replace hF68 := Mm.ext.trans hF68 hx125
 replace hF118 := Mm.ext.trans hF118 hx125
 replace hG120 := Mm.ext.trans hG120 hx125
 have hR152 : Rd M36 [.box b11 cs38 44] w124 := Rd.of hS hG120 (by simp)
 refine ⟨fun _ => hR152, ?_⟩
 obtain ⟨hy127, hs127⟩ := app_some hr127
 refine WB_one (i := 4) (by kernel_rfl) rfl (O_app (α := Int) (j := 2) tp27 hS rfl rfl rfl hv122 hv125 hy127 ?_)
 intro v127 M127 w126 hx127 hv127 hS
 rw [← hs127] at hv127
 clear hr127 hs127
 replace hv33 := repL.mono hx127.1 hv33
 replace hb38 := Rep.mono hx127.1 hb38
 replace hb75 := Rep.mono hx127.1 hb75
 replace hb99 := Rep.mono hx127.1 hb99
 replace hv122 := repL.mono hx127.1 hv122
 replace hv123 := repL.mono hx127.1 hv123
 replace hv130 := repL.mono hx127.1 hv130
 replace hv125 := repL.mono hx127.1 hv125
 replace hE := Mm.ext.trans hE hx127
 replace hF51 := Mm.ext.trans hF51 hx127
 replace hF68 := Mm.ext.trans hF68 hx127
 replace hF118 := Mm.ext.trans hF118 hx127
 replace hG120 := Mm.ext.trans hG120 hx127
 have hR153 : Rd M36 [.box b11 cs38 44] w126 := Rd.of hS hG120 (by simp)
 refine ⟨fun _ => hR153, ?_⟩
 refine WB_y (i := 10) rfl (by kernel_rfl) rfl (Y_fa fa44_4 hT37_6) (fun _ => hR153) ?_
 obtain ⟨hy132, hs132⟩ := app_some hr132
 refine WB_one (i := 9) (by kernel_rfl) rfl (O_app (α := Int) (j := 1) tp27 hS rfl rfl rfl hv123 hv130 hy132 ?_)
 intro v132 M132 w131 hx132 hv132 hS
 rw [← hs132] at hv132
 clear hr132 hs132
 replace hv33 := repL.mono hx132.1 hv33
 replace hb38 := Rep.mono hx132.1 hb38
 replace hb75 := Rep.mono hx132.1 hb75
 replace hb99 := Rep.mono hx132.1 hb99
 replace hv122 := repL.mono hx132.1 hv122
 replace hv123 := repL.mono hx132.1 hv123
 replace hv130 := repL.mono hx132.1 hv130
 replace hv125 := repL.mono hx132.1 hv125
 replace hv127 := repL.mono hx132.1 hv127
 replace hE := Mm.ext.trans hE hx132
 replace hF51 := Mm.ext.trans hF51 hx132
 replace hF68 := Mm.ext.trans hF68 hx132
 replace hF118 := Mm.ext.trans hF118 hx132
 replace hG120 := Mm.ext.trans hG120 hx132
 have hR154 : Rd M36 [.box b11 cs38 44] w131 := Rd.of hS hG120 (by simp)
 refine ⟨fun _ => hR154, ?_⟩
 refine WB_one (i := 11) (by kernel_rfl) rfl (O_sx 5 1 hS rfl hb38 rfl rfl (repL_rep hv127) (repL_cells hv127) rfl (GEntry.u4 (rr hb38) (Lf (GEntry.p4 (rr hb38)) (repL_rep hv127))) hd135 ?_)
 intro cs135 w134 hb135 ha135 hs135 hS
 have hp137 := (ha135 (by omega)).trans hp47
 have hp138 := hs135
 refine ⟨fun h => Bool.noConfusion (show false = true from h), ?_⟩
 refine WB_y (i := 12) rfl (by kernel_rfl) rfl (Y_fa fa44_5 hT37_6) (fun h => Bool.noConfusion (show false = true from h)) ?_
 refine WB_one (i := 13) (by kernel_rfl) rfl (O_sx 5 1 hS rfl hb135 rfl rfl (repL_rep hv132) (repL_cells hv132) rfl (GEntry.u5 (rr hb135) (Lf (GEntry.p5 (rr hb135)) (repL_rep hv132))) hd140 ?_)
 intro cs140 w139 hb140 ha140 hs140 hS
 have hp142 := (ha140 (by omega)).trans hp138
 have hp143 := hs140
 refine ⟨fun h => Bool.noConfusion (show false = true from h), ?_⟩
 refine WB_done (by kernel_rfl) (nm_then ?_)
 exact ⟨M132, cs140, d141, v127, v132, hF118, hS, hb140, hp142, hp143, hT37_0, hT37_1, hT37_2, hT37_6, hT37_20, hT37_21, hT37_22, hz⟩
 rintro T110 w108 ⟨M109, cs111, d112, v113, v115, hx117, hS, hb111, hp114, hp116, hT110_0, hT110_1, hT110_2, hT110_6, hT110_20, hT110_21, hT110_22, hz⟩
 replace hv33 := repL.mono hx117.1 hv33
 replace hb75 := Rep.mono hx117.1 hb75
 replace hb99 := Rep.mono hx117.1 hb99
 replace hE := Mm.ext.trans hE hx117
 replace hF51 := Mm.ext.trans hF51 hx117
 replace hF68 := Mm.ext.trans hF68 hx117
 rw [executeOne_j2] at hz
 refine (nm_blk ?_)
 refine (nm_then ?_)
 exact ⟨M109, cs111, d112, cs99, d104, v42, v113, v115, hF68, (St.dropB hS hb73), hb111, hb99, hp105, hp114, hp116, hT110_0, hT110_1, hT110_2, hT110_6, hT110_20, hT110_21, hT110_22, hz⟩
 rintro T56 w54 ⟨M55, cs57, d58, cs59, d60, v61, v63, v65, hx67, hS, hb57, hb59, hp62, hp64, hp66, hT56_0, hT56_1, hT56_2, hT56_6, hT56_20, hT56_21, hT56_22, hz⟩
 replace hv33 := repL.mono hx67.1 hv33
 replace hE := Mm.ext.trans hE hx67
 replace hF51 := Mm.ext.trans hF51 hx67
 rw [executeOne_j1] at hz
 refine W_reg <|WL_y (Y_add hT56_22 rfl) <|WL_y (Y_move (.int .i64 (IntKind.wrap .i64 (y48 + 1))) rfl) ?_
 refine WL_nil (nm_then ?_)
 exact ⟨M55, cs57, d58, cs59, d60, v61, v63, v65, (IntKind.wrap .i64 (y48 + 1)), hF51, hS, hb57, hb59, hp62, hp64, hp66, hT56_0, hT56_1, hT56_2, hT56_6, hT56_20, hT56_21, rfl, (by rw [← hrec49]; exact hz)⟩
 replace hz := bif_ok_f hz hc53
 refine W_exit <|ex_then <|ex_then <|ex_hit ?_
 refine (nm_then ?_)
 refine W_seq <|W_drawB (Rd M36 [.box b11 cs38 44]) (inL []) mixed hS fun w155 hS => ?_
 have hG156 := Mm.ext.refl w.heap.size (lentX [.box bx1 cx1 48, .row ux1_1 3 1]) M36
 have hR157 : Rd M36 [.box b11 cs38 44] w155 := Rd.of hS hG156 (by simp)
 refine WB_y (i := 0) rfl (by kernel_rfl) rfl (Y_move (.pointer (some ⟨bx1, 0, none⟩)) hT37_0) (fun _ => hR157) <|WB_y (i := 1) rfl (by kernel_rfl) rfl (Y_move (.int .i64 x3) hT37_1) (fun _ => hR157) ?_
 have ha158 := (rr hb38)
 have hp159 : sl (sl cs38 (0) 6) 4 1 = [v44] := (sl_sub (by decide)).trans hp45
 have hp160 : sl (sl cs38 (0) 6) 5 1 = [v46] := (sl_sub (by decide)).trans hp47
 refine WB_ld (i := 2) rfl (by kernel_rfl) rfl (inL_lt rfl) (by kernel_rfl) (by kernel_rfl) (Y_ldn ta44 hT37_6 (bvR 0 rfl) (Rep.len ha158)) hR157 <|WB_y (i := 3) rfl (by kernel_rfl) rfl (Y_nil rfl) (fun _ => hR157) <|WB_y (i := 4) rfl (by kernel_rfl) rfl (Y_fa fa48_0 rfl) (fun _ => hR157) ?_
 obtain ⟨u161, hx162, hz⟩ := bind_ok hz
 obtain ⟨hx162a, hx162b⟩ := inR_some hx162
 refine WB_y (i := 5) rfl (by kernel_rfl) rfl (Y_ixA ia45 rfl rfl hx162a hx162b) (fun _ => hR157) ?_
 obtain ⟨x165, hx166, hz⟩ := bind_ok hz
 obtain ⟨a167, hx168, hz⟩ := bind_ok hz
 obtain ⟨d169, hd164, hz⟩ := bind_ok hz
 have hq171 := (idxV_some hx166)
 refine WB_one (i := 6) (by kernel_rfl) rfl (O_sx 5 6 hS rfl hb40 rfl rfl ha158 rfl rfl (GNode.u0 (rr hb40) (vu (k := 6) rfl rfl (GNode.p0 (rr hb40)) (Lf (vp (k := 6) rfl rfl (GNode.p0 (rr hb40)) hx166) ha158) hx168)) hd164 ?_)
 intro cs164 w163 hb164 ha164 hs164 hS
 have hp170 := (ha164 (by omega)).trans hp43
 have hp172 : sl cs164 (0 + 0 + Int.toNat x3 * 6 + 4) 1 = [v44] := sl_in hs164 hp159 (by decide)
 have hp173 : sl cs164 (0 + 0 + Int.toNat x3 * 6 + 5) 1 = [v46] := sl_in hs164 hp160 (by decide)
 have hR174 : Rd M36 [.box b11 cs38 44] w163 := Rd.of hS hG156 (by simp)
 refine ⟨fun _ => hR174, ?_⟩
 refine WB_done (by kernel_rfl) (nm_then ?_)
 refine W_reg <|WL_y (Y_move (.pointer (some ⟨bx1, 0, none⟩)) hT37_0) <|WL_y (Y_move (.pointer (some ⟨bx1, 0, none⟩)) hT37_0) <|WL_y (Y_nil rfl) <|WL_y (Y_fa fa48_1 rfl) ?_
 obtain ⟨v175, ev175, hv175⟩ := (GNode.p1 (rr hb164))
 rw [sl_one_eq ev175 hp170] at hv175
 refine WL_y (Y_ld1 v42 ts27 rfl (hS.bvB 5 rfl) hp170) <|WL_y (Y_move (.int .i64 x3) hT37_1) ?_
 refine WL_c (O_bslice (α := Int) (l := ([x3] : List Int)) [.int .i64 x3] tl27 (bpc rfl bp0) rfl rfl (by decide) (by decide) (by decide) hS (brc (ri x3 : rep M36 _ _) br0) ?_)
 intro v177 M177 w176 hx177 hv177 hS
 replace hb38 := Rep.mono hx177.1 hb38
 replace hb164 := Rep.mono hx177.1 hb164
 replace hv175 := repL.mono hx177.1 hv175
 replace hE := Mm.ext.trans hE hx177
 replace hF51 := Mm.ext.trans hF51 hx177
 obtain ⟨l180, hr179, hz⟩ := bind_ok hz
 obtain ⟨hy179, hs179⟩ := app_some hr179
 refine WL_c (O_app (α := Int) (j := 6) tp27 hS rfl rfl rfl hv175 hv177 hy179 ?_)
 intro v179 M179 w178 hx179 hv179 hS
 rw [← hs179] at hv179
 clear hr179 hs179
 replace hb38 := Rep.mono hx179.1 hb38
 replace hb164 := Rep.mono hx179.1 hb164
 replace hv175 := repL.mono hx179.1 hv175
 replace hv177 := repL.mono hx179.1 hv177
 replace hE := Mm.ext.trans hE hx179
 replace hF51 := Mm.ext.trans hF51 hx179
 refine WL_y (Y_nil rfl) <|WL_y (Y_fa fa48_1 rfl) ?_
 obtain ⟨d183, hd182, hz⟩ := bind_ok hz
 refine WL_c (O_sx 5 1 hS rfl hb164 rfl rfl (repL_rep hv179) (repL_cells hv179) rfl (GNode.u1 (rr hb164) (Lf (GNode.p1 (rr hb164)) (repL_rep hv179))) hd182 ?_)
 intro cs182 w181 hb182 ha182 hs182 hS
 have hp184 := (ha182 (by omega)).trans hp172
 have hp185 := (ha182 (by omega)).trans hp173
 have hp186 := hs182
 cases hz
 exact WL_nil (RetQ_ret (R_t0 rfl  ⟨_, M179, _, rfl, hE, (hS.sel (H' := [.box bx1 cs182 48, .row v179 3 1]) [5, 6] (by decide) rfl), cs182, v179, rfl, rfl, hb182, hp186⟩))
end Go.Proofs.Ytopgdemmdcipcaa
namespace Go.Proofs.Ytopgdemmdcipcaa
open Go.RowKit
open Rep (rep)
set_option linter.unusedVariables false
def takeFrame_j4 (d83 : GNode) (l84 : List GFrame) (y86 : Int) : Option (GNode × (List GFrame) × Int) :=
 some (d83, l84, y86)
def takeFrame_j3 (x2 : Int) (x3 : GFrame) (d73 : GEntry) (d75 : GNode) : Option (GNode × (List GFrame) × Int) :=
 (some ({ kind := 2, node := x2, id := x3.id, ops := Zr.zd, deps := d73.first, at_ := Zr.zd, vals := Zr.zd } : GFrame)).bind fun d96 =>
 (some d75).bind fun d101 =>
 takeFrame_j4 d101 ([d96] : List GFrame) 0
def takeFrame_j6 (d144 : GNode) (l156 : List GFrame) : Option (GNode × (List GFrame) × Int) :=
 (some d144).bind fun d163 =>
 some (d163, l156, 0)
def takeFrame_j7 (x2 : Int) (x3 : GFrame) (d144 : GNode) (d149 : GFrame) (d175 : GEntry) (c179 : Bool) : Option (GNode × (List GFrame) × Int) :=
 (bif c179 then
 (some ({ kind := 5, node := x2, id := x3.id, ops := Zr.zd, deps := Zr.zd, at_ := d175.at_, vals := d175.values } : GFrame)).bind fun d185 =>
 (app ([d149] : List GFrame) ([d185] : List GFrame)).bind fun l190 =>
 takeFrame_j6 d144 l190
 else
 takeFrame_j6 d144 ([d149] : List GFrame))
def takeFrame_j5 (x2 : Int) (x3 : GFrame) (r33 : Int) (d142 : GEntry) (d144 : GNode) : Option (GNode × (List GFrame) × Int) :=
 (some ({ kind := 4, node := x2, id := x3.id, ops := Zr.zd, deps := Zr.zd, at_ := Zr.zd, vals := Zr.zd } : GFrame)).bind fun d149 =>
 (inR x3.id 32).bind fun _ =>
 (idxV d144.entries x3.id).bind fun x168 =>
 (some x168).bind fun d175 =>
 (bif d175.state == 3 then
 (some (touchesZ d175.ops r33)).bind fun r196 =>
 takeFrame_j7 x2 x3 d144 d149 d175 r196
 else
 takeFrame_j7 x2 x3 d144 d149 d175 false)
def takeFrame_j9 (y251 : Int) (rec252 : GNode → Int → Option (GNode × (List GFrame) × Int)) (d261 : GNode) : Option (GNode × (List GFrame) × Int) :=
 rec252 d261 (IntKind.wrap .i64 (y251 + 1))
def takeFrame_j10 (y283 : Int) (rec284 : GNode → Int → Option (GNode × (List GFrame) × Int)) (d293 : GNode) : Option (GNode × (List GFrame) × Int) :=
 rec284 d293 (IntKind.wrap .i64 (y283 + 1))
def takeFrame_l2 (fu : Nat) (r33 : Int) (y251 : Int) (rec252 : GNode → Int → Option (GNode × (List GFrame) × Int)) (r274 : (List Int)) : Nat → GNode → Int → Option (GNode × (List GFrame) × Int)
 | 0, _, _ => none
 | n + 1, d280, y283 =>
 (bif decide (y283 < (r274.length : Int)) then
 (idx r274 y283).bind fun x299 =>
 (inR x299 32).bind fun _ =>
 (idxV d280.entries x299).bind fun x302 =>
 (bif x302.state == 2 then
 (executeOneD fu d280 x299 r33).bind fun r307 =>
 takeFrame_j10 y283 (takeFrame_l2 fu r33 y251 rec252 r274 n) r307
 else
 takeFrame_j10 y283 (takeFrame_l2 fu r33 y251 rec252 r274 n) d280)
 else
 takeFrame_j9 y251 rec252 d280)
def takeFrame_l1 (fu : Nat) (x2 : Int) (x3 : GFrame) (r33 : Int) (d220 : GEntry) (d243 : GGraph) : Nat → GNode → Int → Option (GNode × (List GFrame) × Int)
 | 0, _, _ => none
 | n + 1, d248, y251 =>
 (bif decide (y251 < 32) then
 (inR y251 32).bind fun _ =>
 (idxV d248.entries y251).bind fun x268 =>
 (bif x268.state != 2 then
 takeFrame_j9 y251 (takeFrame_l1 fu x2 x3 r33 d220 d243 n) d248
 else
 (orderOfD fu d243 y251).bind fun r274 =>
 takeFrame_l2 fu r33 y251 (takeFrame_l1 fu x2 x3 r33 d220 d243 n) r274 fu d248 0)
 else
 takeFrame_j5 x2 x3 r33 d220 d248)
def takeFrame_j8 (fu : Nat) (x2 : Int) (x3 : GFrame) (r33 : Int) (d47 : GNode) (d203 : GEntry) : Option (GNode × (List GFrame) × Int) :=
 (some ({ d203 with state := 2 } : GEntry)).bind fun d212 =>
 (some ({ d212 with ops := x3.ops } : GEntry)).bind fun d216 =>
 (some ({ d216 with deps := x3.deps } : GEntry)).bind fun d220 =>
 (inR x3.id 32).bind fun _ =>
 (idxV d47.entries x3.id).bind fun x227 =>
 (setV d47.entries x3.id d220).bind fun a229 =>
 (some ({ d47 with entries := a229 } : GNode)).bind fun d231 =>
 (graphOfD fu d231).bind fun r238 =>
 (some r238).bind fun d243 =>
 takeFrame_l1 fu x2 x3 r33 d220 d243 fu d231 0
def takeFrame_j2 (fu : Nat) (x1 : GNode) (x2 : Int) (x3 : GFrame) (d29 : GNode) : Option (GNode × (List GFrame) × Int) :=
 (some (ofZ x2)).bind fun r33 =>
 (some x1).bind fun d39 =>
 (copyNodeD fu x1).bind fun r43 =>
 (some r43).bind fun d47 =>
 (inR x3.id 32).bind fun _ =>
 (idxV d47.entries x3.id).bind fun x51 =>
 (some x51).bind fun d58 =>
 (bif x3.kind == 1 then
 (some (touchesZ x3.ops r33)).bind fun r63 =>
 (bif !r63 then
 (some d39).bind fun d68 =>
 some (d68, [], 4)
 else
 (bif d58.state == 0 then
 (beforeD fu d47 x3.id x3.ops r33).bind fun r118 =>
 (some ({ state := 1, ops := x3.ops, first := r118, deps := Zr.zd, at_ := Zr.zd, values := Zr.zd } : GEntry)).bind fun d121 =>
 (some d121).bind fun d124 =>
 (inR x3.id 32).bind fun _ =>
 (idxV d47.entries x3.id).bind fun x131 =>
 (setV d47.entries x3.id d124).bind fun a133 =>
 (some ({ d47 with entries := a133 } : GNode)).bind fun d135 =>
 takeFrame_j3 x2 x3 d124 d135
 else
 takeFrame_j3 x2 x3 d58 d47))
 else
 (bif decide (d58.state < 2) then
 (bif d58.state == 0 then
 (beforeD fu d47 x3.id x3.ops r33).bind fun r315 =>
 (some ({ d58 with first := r315 } : GEntry)).bind fun d318 =>
 takeFrame_j8 fu x2 x3 r33 d47 d318
 else
 takeFrame_j8 fu x2 x3 r33 d47 d58)
 else
 takeFrame_j5 x2 x3 r33 d58 d47))
def takeFrame_j11 (fu : Nat) (x1 : GNode) (x2 : Int) (x3 : GFrame) (d14 : GNode) (c323 : Bool) : Option (GNode × (List GFrame) × Int) :=
 (bif c323 then
 (some x1).bind fun d329 =>
 some (d329, [], 3)
 else
 takeFrame_j2 fu x1 x2 x3 d14)
def takeFrame_j1 (fu : Nat) (x1 : GNode) (x2 : Int) (x3 : GFrame) (d14 : GNode) : Option (GNode × (List GFrame) × Int) :=
 (some (frameZ x3)).bind fun r19 =>
 (bif r19 != 0 then
 (some x1).bind fun d24 =>
 some (d24, [], r19)
 else
 (bif x3.kind != 1 then
 takeFrame_j11 fu x1 x2 x3 d14 (x3.kind != 3)
 else
 takeFrame_j11 fu x1 x2 x3 d14 false))
def takeFrame_j12 (fu : Nat) (x1 : GNode) (x2 : Int) (x3 : GFrame) (c336 : Bool) : Option (GNode × (List GFrame) × Int) :=
 (bif c336 then
 (some x1).bind fun d342 =>
 some (d342, [], 2)
 else
 takeFrame_j1 fu x1 x2 x3 (Zr.zd : GNode))
def takeFrameD (fu : Nat) (x1 : GNode) (x2 : Int) (x3 : GFrame) : Option (GNode × (List GFrame) × Int) :=
 (isNodeD fu x1).bind fun r347 =>
 (bif !r347 then
 takeFrame_j12 fu x1 x2 x3 true
 else
 (bif decide (x2 < 0) then
 takeFrame_j12 fu x1 x2 x3 true
 else
 (bif decide (x2 > 5) then
 takeFrame_j12 fu x1 x2 x3 true
 else
 takeFrame_j12 fu x1 x2 x3 (x3.node != x2))))
set_option maxRecDepth 100000 in
set_option maxHeartbeats 4000000 in
theorem takeFrame_ok {M : Mm} {w : World} {cx1 : List Value} {cx3 : List Value} {x1 : GNode} {x2 : Int} {x3 : GFrame} {fu : Nat} {r : GNode × (List GFrame) × Int} (hA : Agree M w) (hcx1 : rep M cx1 x1) (hcx3 : rep M cx3 x3) (hz : takeFrameD fu x1 x2 x3 = some r) :
    Calls Try.prog 18 #[.agg cx1.toArray, .int .i64 x2, .agg cx3.toArray] w (Gives M w (fun M' u => ∃ c0 v1, u = .tuple #[.agg c0.toArray, v1, .int .i64 r.2.2] ∧ rep M' c0 r.1 ∧ repL M' v1 r.2.1)) := by
 refine calls_W Try.func18 rfl 185 rfl rfl (by kernel_rfl) fun T hT => ?_
 have hT_0 : T 0 = .agg cx1.toArray := hT 0
 have hT_1 : T 1 = .int .i64 x2 := hT 1
 have hT_2 : T 2 = .agg cx3.toArray := hT 2
 clear hT
 have hE := Mm.ext.refl w.heap.size noX M
 have hS : St w noX M [] w := St.start hA
 rw [takeFrameD] at hz
 refine W_seq <|W_reg ?_
 refine WL_c (O_box (v := .agg cx1.toArray) (cs := cx1) hT_0 rfl hS ?_)
 intro b5 w4 hb5 hS
 refine WL_c (O_box (v := .agg cx3.toArray) (cs := cx3) hT_2 rfl hS ?_)
 intro b7 w6 hb7 hS
 refine WL_c (O_alloc tz48 hS ?_)
 intro b9 w8 hb9 hS
 have zb9 : rep M (Zr.zc GNode) (Zr.zd : GNode) := Zr.zr
 refine WL_d 2 rfl ?_
 refine WL_nil (nm_then ?_)
 refine W_seqJ (fun T' w' => ∃ M11 cs13 d14, Mm.ext w.heap.size noX M M11 ∧ St w noX M11 [.box b9 cs13 48, .box b7 cx3 38, .box b5 cx1 48] w' ∧ rep M11 cs13 d14 ∧ T' 1 = .int .i64 x2 ∧ T' 3 = .pointer (some ⟨b5, 0, none⟩) ∧ T' 5 = .pointer (some ⟨b7, 0, none⟩) ∧ T' 6 = .pointer (some ⟨b9, 0, none⟩) ∧ takeFrame_j1 fu x1 x2 x3 d14 = some r) ?_ ?_
 have hF332 := Mm.ext.refl w.heap.size noX M
 refine W_seqJ (fun T' w' => ∃ M334 c336, Mm.ext w.heap.size noX M M334 ∧ St w noX M334 [.box b9 (Zr.zc GNode) 48, .box b7 cx3 38, .box b5 cx1 48] w' ∧ T' 1 = .int .i64 x2 ∧ T' 3 = .pointer (some ⟨b5, 0, none⟩) ∧ T' 5 = .pointer (some ⟨b7, 0, none⟩) ∧ T' 6 = .pointer (some ⟨b9, 0, none⟩) ∧ T' 35 = .bool c336 ∧ takeFrame_j12 fu x1 x2 x3 c336 = some r) ?_ ?_
 have hF343 := Mm.ext.refl w.heap.size noX M
 refine W_reg ?_
 have ha344 := (rr hcx1)
 refine WL_y (Y_ldn ta48 rfl (hS.bvB 2 rfl) (Rep.len ha344)) ?_
 obtain ⟨r347, hr346, hz⟩ := bind_ok hz
 refine WL_c (O_val (vs := [.agg (sl cx1 (0) 201).toArray]) (v := .bool r347) cb22 (args1 rfl) hS (isNode_ok hS.agree ha344 hr346) ?_)
 intro w345 hS
 refine WL_y (Y_not rfl) <|WL_y (Y_move (.bool (!r347)) rfl) ?_
 rcases ic hz with ⟨hc348, hz⟩ | ⟨hc348, hz⟩ <;> rw [hc348]
 refine WL_d 13 rfl ?_
 refine WL_nil (nm_then ?_)
 exact ⟨M, true, hF343, hS, hT_1, rfl, rfl, rfl, rfl, hz⟩
 refine WL_gy rfl rfl (Y_move (.int .i64 x2) hT_1) <|WL_gy rfl rfl (Y_lss rfl rfl) <|WL_d 2 rfl ?_
 rcases ic hz with ⟨hc349, hz⟩ | ⟨hc349, hz⟩ <;> rw [hc349]
 refine WL_d 9 rfl ?_
 refine WL_nil (nm_then ?_)
 exact ⟨M, true, hF343, hS, hT_1, rfl, rfl, rfl, rfl, hz⟩
 refine WL_gy rfl rfl (Y_move (.int .i64 x2) hT_1) <|WL_gy rfl rfl (Y_gtr rfl rfl) <|WL_d 2 rfl ?_
 rcases ic hz with ⟨hc350, hz⟩ | ⟨hc350, hz⟩ <;> rw [hc350]
 refine WL_d 5 rfl ?_
 refine WL_nil (nm_then ?_)
 exact ⟨M, true, hF343, hS, hT_1, rfl, rfl, rfl, rfl, hz⟩
 refine WL_gy rfl rfl (Y_fa fa38_1 rfl) <|WL_gy rfl rfl (Y_ld1 (.int .i64 x3.node) ts3 rfl (hS.bvB 1 rfl) (GFrame.p1 (rr hcx3))) <|WL_gy rfl rfl (Y_move (.int .i64 x2) hT_1) <|WL_gy rfl rfl (Y_neq rfl rfl) <|WL_y (Y_pick_f (.bool (x3.node != x2)) rfl rfl) ?_
 refine WL_nil (nm_then ?_)
 exact ⟨M, (x3.node != x2), hF343, hS, hT_1, rfl, rfl, rfl, rfl, hz⟩
 rintro T335 w333 ⟨M334, c336, hx337, hS, hT335_1, hT335_3, hT335_5, hT335_6, hT335_35, hz⟩
 replace hcx1 := Rep.mono hx337.1 hcx1
 replace hcx3 := Rep.mono hx337.1 hcx3
 replace zb9 := Rep.mono hx337.1 zb9
 replace hE := Mm.ext.trans hE hx337
 replace hF332 := Mm.ext.trans hF332 hx337
 rw [takeFrame_j12] at hz
 refine W_cond hT335_35 (fun hc338 => ?_) (fun hc338 => ?_)
 replace hz := bif_ok_t hz hc338
 refine W_seq <|W_reg ?_
 have ha339 := (rr hcx1)
 refine WL_y (Y_ldn ta48 hT335_3 (hS.bvB 2 rfl) (Rep.len ha339)) ?_
 obtain ⟨d342, hd341, hz⟩ := bind_ok hz
 refine WL_c (O_sx 0 201 hS rfl zb9 hT335_6 rfl ha339 rfl rfl (Lf (rr zb9) ha339) hd341 ?_)
 intro cs341 w340 hb341 ha341 hs341 hS
 refine WL_d 2 rfl ?_
 refine WL_nil (nm_then ?_)
 cases hz
 exact W_ret (rt_then (R_ctt (j := 0) rfl hT335_6 rfl rfl (by rw [Rep.len hb341]; exact ta48) hS rfl (Gives.mk (St.dropB (St.dropB (St.dropB hS hb9) hb7) hb5) hE ⟨_, _, rfl, hb341, (repL_nil _)⟩)))
 replace hz := bif_ok_f hz hc338
 refine W_skip (nm_then ?_)
 exact ⟨M334, (Zr.zc GNode), (Zr.zd : GNode), hF332, hS, zb9, hT335_1, hT335_3, hT335_5, hT335_6, hz⟩
 rintro T12 w10 ⟨M11, cs13, d14, hx15, hS, hb13, hT12_1, hT12_3, hT12_5, hT12_6, hz⟩
 replace hcx1 := Rep.mono hx15.1 hcx1
 replace hcx3 := Rep.mono hx15.1 hcx3
 replace hE := Mm.ext.trans hE hx15
 rw [takeFrame_j1] at hz
 refine W_seq <|W_seq <|W_reg ?_
 have ha16 := (rr hcx3)
 refine WL_y (Y_ldn ta38 hT12_5 (hS.bvB 1 rfl) (Rep.len ha16)) ?_
 obtain ⟨r19, hr18, hz⟩ := bind_ok hz
 replace hr18 := Option.some.inj hr18
 refine WL_c (O_val (vs := [.agg (sl cx3 (0) 7).toArray]) (v := .int .i64 r19) cb54 (args1 rfl) hS (hr18 ▸ (c_isFrame hS.agree ha16)) ?_)
 intro w17 hS
 refine WL_y (Y_assign (.int .i64 r19) rfl) ?_
 refine WL_nil (nm_then ?_)
 refine W_seq <|W_reg <|WL_y (Y_move (.int .i64 r19) rfl) <|WL_y (Y_neq rfl rfl) ?_
 refine WL_nil (nm_then ?_)
 refine W_cond rfl (fun hc20 => ?_) (fun hc20 => ?_)
 replace hz := bif_ok_t hz hc20
 refine W_seq <|W_reg ?_
 have ha21 := (rr hcx1)
 refine WL_y (Y_ldn ta48 hT12_3 (hS.bvB 2 rfl) (Rep.len ha21)) <|WL_y (Y_move (.int .i64 r19) rfl) ?_
 obtain ⟨d24, hd23, hz⟩ := bind_ok hz
 refine WL_c (O_sx 0 201 hS rfl hb13 hT12_6 rfl ha21 rfl rfl (Lf (rr hb13) ha21) hd23 ?_)
 intro cs23 w22 hb23 ha23 hs23 hS
 refine WL_d 2 rfl ?_
 refine WL_nil (nm_then ?_)
 cases hz
 exact W_ret (rt_then (R_ctt (j := 0) rfl hT12_6 rfl rfl (by rw [Rep.len hb23]; exact ta48) hS rfl (Gives.mk (St.dropB (St.dropB (St.dropB hS hb9) hb7) hb5) hE ⟨_, _, rfl, hb23, (repL_nil _)⟩)))
 replace hz := bif_ok_f hz hc20
 refine W_skip (nm_then ?_)
 refine W_seqJ (fun T' w' => ∃ M26 cs28 d29, Mm.ext w.heap.size noX M11 M26 ∧ St w noX M26 [.box b9 cs28 48, .box b7 cx3 38, .box b5 cx1 48] w' ∧ rep M26 cs28 d29 ∧ T' 1 = .int .i64 x2 ∧ T' 3 = .pointer (some ⟨b5, 0, none⟩) ∧ T' 5 = .pointer (some ⟨b7, 0, none⟩) ∧ T' 6 = .pointer (some ⟨b9, 0, none⟩) ∧ takeFrame_j2 fu x1 x2 x3 d29 = some r) ?_ ?_
 have hF319 := Mm.ext.refl w.heap.size noX M11
 refine W_seqJ (fun T' w' => ∃ M321 c323, Mm.ext w.heap.size noX M11 M321 ∧ St w noX M321 [.box b9 cs13 48, .box b7 cx3 38, .box b5 cx1 48] w' ∧ T' 1 = .int .i64 x2 ∧ T' 3 = .pointer (some ⟨b5, 0, none⟩) ∧ T' 5 = .pointer (some ⟨b7, 0, none⟩) ∧ T' 6 = .pointer (some ⟨b9, 0, none⟩) ∧ T' 50 = .bool c323 ∧ takeFrame_j11 fu x1 x2 x3 d14 c323 = some r) ?_ ?_
 have hF330 := Mm.ext.refl w.heap.size noX M11
 refine W_reg <|WL_y (Y_fa fa38_0 hT12_5) <|WL_y (Y_ld1 (.int .i64 x3.kind) ts3 rfl (hS.bvB 1 rfl) (GFrame.p0 (rr hcx3))) <|WL_y (Y_neq rfl rfl) <|WL_y (Y_move (.bool (x3.kind != 1)) rfl) ?_
 rcases ic hz with ⟨hc331, hz⟩ | ⟨hc331, hz⟩ <;> rw [hc331]
 refine WL_gy rfl rfl (Y_fa fa38_0 hT12_5) <|WL_gy rfl rfl (Y_ld1 (.int .i64 x3.kind) ts3 rfl (hS.bvB 1 rfl) (GFrame.p0 (rr hcx3))) <|WL_gy rfl rfl (Y_neq rfl rfl) <|WL_y (Y_pick_t (.bool (x3.kind != 3)) rfl rfl) ?_
 refine WL_nil (nm_then ?_)
 exact ⟨M11, (x3.kind != 3), hF330, hS, hT12_1, hT12_3, hT12_5, hT12_6, rfl, hz⟩
 refine WL_d 4 rfl ?_
 refine WL_nil (nm_then ?_)
 exact ⟨M11, false, hF330, hS, hT12_1, hT12_3, hT12_5, hT12_6, rfl, hz⟩
 rintro T322 w320 ⟨M321, c323, hx324, hS, hT322_1, hT322_3, hT322_5, hT322_6, hT322_50, hz⟩
 replace hcx1 := Rep.mono hx324.1 hcx1
 replace hcx3 := Rep.mono hx324.1 hcx3
 replace hb13 := Rep.mono hx324.1 hb13
 replace hE := Mm.ext.trans hE hx324
 replace hF319 := Mm.ext.trans hF319 hx324
 rw [takeFrame_j11] at hz
 refine W_cond hT322_50 (fun hc325 => ?_) (fun hc325 => ?_)
 replace hz := bif_ok_t hz hc325
 refine W_seq <|W_reg ?_
 have ha326 := (rr hcx1)
 refine WL_y (Y_ldn ta48 hT322_3 (hS.bvB 2 rfl) (Rep.len ha326)) ?_
 obtain ⟨d329, hd328, hz⟩ := bind_ok hz
 refine WL_c (O_sx 0 201 hS rfl hb13 hT322_6 rfl ha326 rfl rfl (Lf (rr hb13) ha326) hd328 ?_)
 intro cs328 w327 hb328 ha328 hs328 hS
 refine WL_d 2 rfl ?_
 refine WL_nil (nm_then ?_)
 cases hz
 exact W_ret (rt_then (R_ctt (j := 0) rfl hT322_6 rfl rfl (by rw [Rep.len hb328]; exact ta48) hS rfl (Gives.mk (St.dropB (St.dropB (St.dropB hS hb9) hb7) hb5) hE ⟨_, _, rfl, hb328, (repL_nil _)⟩)))
 replace hz := bif_ok_f hz hc325
 refine W_skip (nm_then ?_)
 exact ⟨M321, cs13, d14, hF319, hS, hb13, hT322_1, hT322_3, hT322_5, hT322_6, hz⟩
 rintro T27 w25 ⟨M26, cs28, d29, hx30, hS, hb28, hT27_1, hT27_3, hT27_5, hT27_6, hz⟩
 replace hcx1 := Rep.mono hx30.1 hcx1
 replace hcx3 := Rep.mono hx30.1 hcx3
 replace hE := Mm.ext.trans hE hx30
 rw [takeFrame_j2] at hz
 refine W_seq <|W_reg <|WL_y (Y_move (.int .i64 x2) hT27_1) ?_
 obtain ⟨r33, hr32, hz⟩ := bind_ok hz
 replace hr32 := Option.some.inj hr32
 refine WL_c (O_val (vs := [.int .i64 x2]) (v := .int .i64 r33) cb55 (args1 rfl) hS (hr32 ▸ (c_ofNode)) ?_)
 intro w31 hS
 refine WL_y (Y_assign (.int .i64 r33) rfl) ?_
 refine WL_nil (nm_then ?_)
 refine W_seq <|W_reg ?_
 have ha34 := (rr hcx1)
 refine WL_y (Y_ldn ta48 hT27_3 (hS.bvB 2 rfl) (Rep.len ha34)) ?_
 refine WL_c (O_alloc tz48 hS ?_)
 intro b36 w35 hb36 hS
 have zb36 : rep M26 (Zr.zc GNode) (Zr.zd : GNode) := Zr.zr
 obtain ⟨d39, hd38, hz⟩ := bind_ok hz
 refine WL_c (O_sx 0 201 hS rfl zb36 rfl rfl ha34 rfl rfl (Lf (rr zb36) ha34) hd38 ?_)
 intro cs38 w37 hb38 ha38 hs38 hS
 refine WL_nil (nm_then ?_)
 refine W_seq <|W_reg ?_
 have ha40 := (rr hcx1)
 refine WL_y (Y_ldn ta48 hT27_3 (hS.bvB 3 rfl) (Rep.len ha40)) ?_
 obtain ⟨r43, hr42, hz⟩ := bind_ok hz
 refine WL_c (O_lend (vs := [.agg (sl cx1 (0) 201).toArray]) (L := []) (R := [.box b36 cs38 48, .box b9 cs28 48, .box b7 cx3 38, .box b5 cx1 48]) (rv := (fun M' u L' => ∃ c0 uR, u = .agg c0.toArray ∧ L' = [.row uR 3 1] ∧ rep M' c0 r43 ∧ sl c0 192 1 = [uR])) cb15 (args1 rfl) hS (hS.sel [0, 1, 2, 3] (by decide) rfl) (fun hS => copyNode_ok hS.agree ha40 hr42) ?_)
 rintro u42 M42 w41 L42 hx42 ⟨c0_42, uR_42, rfl, hL42, f42_0, f42_1⟩ hS
 replace hS := hS _ hL42
 replace hcx1 := Rep.mono hx42.1 hcx1
 replace hcx3 := Rep.mono hx42.1 hcx3
 replace hb28 := Rep.mono hx42.1 hb28
 replace hb38 := Rep.mono hx42.1 hb38
 replace ha40 := Rep.mono hx42.1 ha40
 replace hE := Mm.ext.trans hE hx42
 obtain ⟨d47, hd46, hz⟩ := bind_ok hz
 refine WL_c (O_sx 4 201 hS rfl hcx1 hT27_3 rfl f42_0 rfl rfl (Lf (rr hcx1) f42_0) hd46 ?_)
 intro cs46 w45 hb46 ha46 hs46 hS
 have hp48 : sl cs46 (0 + 192) 1 = [uR_42] := sl_in hs46 f42_1 (by decide)
 refine WL_nil (nm_then ?_)
 refine W_seq <|W_reg <|WL_y (Y_fa fa38_2 hT27_5) <|WL_y (Y_ld1 (.int .i64 x3.id) ts3 rfl (hS.bvB 3 rfl) (GFrame.p2 (rr hcx3))) <|WL_y (Y_fa fa48_0 hT27_3) ?_
 obtain ⟨u49, hx50, hz⟩ := bind_ok hz
 obtain ⟨hx50a, hx50b⟩ := inR_some hx50
 refine WL_y (Y_ixA ia45 rfl rfl hx50a hx50b) ?_
 obtain ⟨x51, hx52, hz⟩ := bind_ok hz
 have ha53 := (vp (k := 6) rfl rfl (GNode.p0 (rr hb46)) hx52)
 refine WL_y (Y_ldn ta44 rfl (hS.bvB 4 rfl) (Rep.len ha53)) ?_
 refine WL_c (O_alloc tz44 hS ?_)
 intro b55 w54 hb55 hS
 have zb55 : rep M42 (Zr.zc GEntry) (Zr.zd : GEntry) := Zr.zr
 obtain ⟨d58, hd57, hz⟩ := bind_ok hz
 refine WL_c (O_sx 0 6 hS rfl zb55 rfl rfl ha53 rfl rfl (Lf (rr zb55) ha53) hd57 ?_)
 intro cs57 w56 hb57 ha57 hs57 hS
 refine WL_nil (nm_then ?_)
 refine W_seq <|W_seq <|W_reg <|WL_y (Y_fa fa38_0 hT27_5) <|WL_y (Y_ld1 (.int .i64 x3.kind) ts3 rfl (hS.bvB 4 rfl) (GFrame.p0 (rr hcx3))) <|WL_y (Y_eql rfl rfl) ?_
 refine WL_nil (nm_then ?_)
 refine W_cond rfl (fun hc59 => ?_) (fun hc59 => ?_)
 replace hz := bif_ok_t hz hc59
 refine W_seq <|W_seq <|W_reg <|WL_y (Y_fa fa38_3 hT27_5) ?_
 obtain ⟨v60, ev60, hv60⟩ := (GFrame.p3 (rr hcx3))
 refine WL_y (Y_ld1 v60 ts22 rfl (hS.bvB 4 rfl) ev60) <|WL_y (Y_move (.int .i64 r33) rfl) ?_
 obtain ⟨r63, hr62, hz⟩ := bind_ok hz
 replace hr62 := Option.some.inj hr62
 refine WL_c (O_val (vs := [v60, .int .i64 r33]) (v := .bool r63) cb56 (args2 rfl rfl) hS (hr62 ▸ (c_touchesShard hS.agree hv60)) ?_)
 intro w61 hS
 refine WL_y (Y_not rfl) ?_
 refine WL_nil (nm_then ?_)
 refine W_cond rfl (fun hc64 => ?_) (fun hc64 => ?_)
 replace hz := bif_ok_t hz hc64
 refine W_seq <|W_reg ?_
 have ha65 := (rr hb38)
 refine WL_y (Y_ldn ta48 rfl (hS.bvB 2 rfl) (Rep.len ha65)) ?_
 obtain ⟨d68, hd67, hz⟩ := bind_ok hz
 refine WL_c (O_sx 3 201 hS rfl hb28 hT27_6 rfl ha65 rfl rfl (Lf (rr hb28) ha65) hd67 ?_)
 intro cs67 w66 hb67 ha67 hs67 hS
 refine WL_d 2 rfl ?_
 refine WL_nil (nm_then ?_)
 cases hz
 exact W_ret (rt_then (rt_then (R_ctt (j := 3) rfl hT27_6 rfl rfl (by rw [Rep.len hb67]; exact ta48) hS rfl (Gives.mk (St.dropB (St.dropB (St.dropB (St.dropB (St.drop (St.dropB hS hb55)) hb36) hb9) hb7) hb5) hE ⟨_, _, rfl, hb67, (repL_nil _)⟩))))
 replace hz := bif_ok_f hz hc64
 refine W_skip (nm_then ?_)
 refine W_seqJ (fun T' w' => ∃ M70 cs72 d73 cs74 d75 v76, Mm.ext w.heap.size noX M42 M70 ∧ St w noX M70 [.box b55 cs72 44, .row v76 3 1, .box b36 cs38 48, .box b9 cs28 48, .box b7 cx3 38, .box b5 cs74 48] w' ∧ rep M70 cs72 d73 ∧ rep M70 cs74 d75 ∧ sl cs74 (0 + 192) 1 = [v76] ∧ T' 1 = .int .i64 x2 ∧ T' 3 = .pointer (some ⟨b5, 0, none⟩) ∧ T' 5 = .pointer (some ⟨b7, 0, none⟩) ∧ T' 6 = .pointer (some ⟨b9, 0, none⟩) ∧ T' 12 = .pointer (some ⟨b55, 0, none⟩) ∧ takeFrame_j3 x2 x3 d73 d75 = some r) ?_ ?_
 have hF107 := Mm.ext.refl w.heap.size noX M42
 refine W_seq <|W_reg <|WL_y (Y_fa fa44_0 rfl) <|WL_y (Y_ld1 (.int .i64 d58.state) ts3 rfl (hS.bvB 0 rfl) (GEntry.p0 (rr hb57))) <|WL_y (Y_eql rfl rfl) ?_
 refine WL_nil (nm_then ?_)
 refine W_cond rfl (fun hc108 => ?_) (fun hc108 => ?_)
 replace hz := bif_ok_t hz hc108
 refine W_seq <|W_drawB (Rd M42 [.box b7 cx3 38, .box b5 cs46 48]) (inL []) mixed hS fun w109 hS => ?_
 have hG110 := Mm.ext.refl w.heap.size noX M42
 have hR111 : Rd M42 [.box b7 cx3 38, .box b5 cs46 48] w109 := Rd.of hS hG110 (by simp)
 refine WB_y (i := 0) rfl (by kernel_rfl) rfl (Y_fa fa38_3 hT27_5) (fun _ => hR111) ?_
 obtain ⟨v112, ev112, hv112⟩ := (GFrame.p3 (rr hcx3))
 refine WB_ld (i := 1) rfl (by kernel_rfl) rfl (inL_lt rfl) (by kernel_rfl) (by kernel_rfl) (Y_ld1 v112 ts22 rfl (bvR 0 rfl) ev112) hR111 ?_
 have ha113 := (rr hb46)
 have hp114 : sl (sl cs46 (0) 201) 192 1 = [uR_42] := (sl_sub (by decide)).trans hp48
 refine WB_ld (i := 2) rfl (by kernel_rfl) rfl (inL_lt rfl) (by kernel_rfl) (by kernel_rfl) (Y_ldn ta48 hT27_3 (bvR 1 rfl) (Rep.len ha113)) hR111 <|WB_y (i := 3) rfl (by kernel_rfl) rfl (Y_fa fa38_2 hT27_5) (fun _ => hR111) <|WB_ld (i := 4) rfl (by kernel_rfl) rfl (inL_lt rfl) (by kernel_rfl) (by kernel_rfl) (Y_ld1 (.int .i64 x3.id) ts3 rfl (bvR 0 rfl) (GFrame.p2 (rr hcx3))) hR111 <|WB_y (i := 5) rfl (by kernel_rfl) rfl (Y_fa fa38_3 hT27_5) (fun _ => hR111) ?_
 obtain ⟨v115, ev115, hv115⟩ := (GFrame.p3 (rr hcx3))
 refine WB_ld (i := 6) rfl (by kernel_rfl) rfl (inL_lt rfl) (by kernel_rfl) (by kernel_rfl) (Y_ld1 v115 ts22 rfl (bvR 0 rfl) ev115) hR111 <|WB_y (i := 7) rfl (by kernel_rfl) rfl (Y_move (.int .i64 r33) rfl) (fun _ => hR111) ?_
 obtain ⟨r118, hr117, hz⟩ := bind_ok hz
 refine WB_one (i := 8) (by kernel_rfl) rfl (O_mem (vs := [.agg (sl cs46 (0) 201).toArray, .int .i64 x3.id, v115, .int .i64 r33]) (rv := (fun M' u => repL M' u r118)) cb57 (args4 rfl rfl rfl rfl) hS (before_ok hS.agree ha113 hv115 hr117) ?_)
 intro u117 M117 w116 hx117 hu117 hS
 have f117 : repL M117 u117 r118 := hu117
 replace hcx3 := Rep.mono hx117.1 hcx3
 replace hb28 := Rep.mono hx117.1 hb28
 replace hb38 := Rep.mono hx117.1 hb38
 replace hb46 := Rep.mono hx117.1 hb46
 replace hb57 := Rep.mono hx117.1 hb57
 replace hv112 := repL.mono hx117.1 hv112
 replace ha113 := Rep.mono hx117.1 ha113
 replace hv115 := repL.mono hx117.1 hv115
 replace hE := Mm.ext.trans hE hx117
 replace hF107 := Mm.ext.trans hF107 hx117
 replace hG110 := Mm.ext.trans hG110 hx117
 have hR119 : Rd M42 [.box b7 cx3 38, .box b5 cs46 48] w116 := Rd.of hS hG110 (by simp)
 refine ⟨fun _ => hR119, ?_⟩
 have k120_0 := GEntry.w0 (Zr.zr : rep M117 (Zr.zc GEntry) (Zr.zd : GEntry)) (ri 1 : rep M117 _ _)
 have k120_1 := GEntry.w1 k120_0 (repL_rep hv112)
 have k120_2 := GEntry.w2 k120_1 (repL_rep f117)
 obtain ⟨d121, hd120, hz⟩ := bind_ok hz
 obtain ⟨cs120, hf120, ha120⟩ : ∃ cs, fillZ (([(0, 1), (1, 1), (2, 1), (3, 1), (4, 1), (5, 1)] : List (Nat × Nat))[·]?) (Zr.zc GEntry) [(0, .int .i64 1), (1, v112), (2, u117)] = some cs ∧ rep M117 cs d121 := ⟨_, (fz_cons (Zr.zr : rep M117 (Zr.zc GEntry) (Zr.zd : GEntry)) rfl rfl (Rep.len (ri 1 : rep M117 _ _)) (by decide) (fz_cons k120_0 rfl (repL_cells hv112) (Rep.len (repL_rep hv112)) (by decide) (fz_cons k120_1 rfl (repL_cells f117) (Rep.len (repL_rep f117)) (by decide) fz_nil))), rep_eq (x := ({ state := 1, ops := x3.ops, first := r118, deps := Zr.zd, at_ := Zr.zd, values := Zr.zd } : GEntry)) k120_2 hd120⟩
 refine WB_y (i := 9) rfl (by kernel_rfl) rfl (Y_build [(0, .int .i64 1), (1, v112), (2, u117)] tb44 (bpc rfl (bpc rfl (bpc rfl bp0))) hf120) (fun _ => hR119) ?_
 obtain ⟨d124, hd123, hz⟩ := bind_ok hz
 refine WB_one (i := 10) (by kernel_rfl) rfl (O_sx 0 6 hS rfl hb57 rfl rfl ha120 rfl rfl (Lf (rr hb57) ha120) hd123 ?_)
 intro cs123 w122 hb123 ha123 hs123 hS
 have hR125 : Rd M42 [.box b7 cx3 38, .box b5 cs46 48] w122 := Rd.of hS hG110 (by simp)
 refine ⟨fun _ => hR125, ?_⟩
 refine WB_done (by kernel_rfl) (nm_then ?_)
 refine W_reg <|WL_y (Y_fa fa38_2 hT27_5) <|WL_y (Y_ld1 (.int .i64 x3.id) ts3 rfl (hS.bvB 4 rfl) (GFrame.p2 (rr hcx3))) ?_
 have ha126 := (rr hb123)
 refine WL_y (Y_ldn ta44 rfl (hS.bvB 0 rfl) (Rep.len ha126)) <|WL_y (Y_fa fa48_0 hT27_3) ?_
 obtain ⟨u127, hx128, hz⟩ := bind_ok hz
 obtain ⟨hx128a, hx128b⟩ := inR_some hx128
 refine WL_y (Y_ixA ia45 rfl rfl hx128a hx128b) ?_
 obtain ⟨x131, hx132, hz⟩ := bind_ok hz
 obtain ⟨a133, hx134, hz⟩ := bind_ok hz
 obtain ⟨d135, hd130, hz⟩ := bind_ok hz
 have hq137 := (idxV_some hx132)
 refine WL_c (O_sx 5 6 hS rfl hb46 rfl rfl ha126 rfl rfl (GNode.u0 (rr hb46) (vu (k := 6) rfl rfl (GNode.p0 (rr hb46)) (Lf (vp (k := 6) rfl rfl (GNode.p0 (rr hb46)) hx132) ha126) hx134)) hd130 ?_)
 intro cs130 w129 hb130 ha130 hs130 hS
 have hp136 := (ha130 (by omega)).trans hp48
 refine WL_nil (nm_then ?_)
 exact ⟨M117, cs123, d124, cs130, d135, uR_42, hF107, hS, hb123, hb130, hp136, hT27_1, hT27_3, hT27_5, hT27_6, rfl, hz⟩
 replace hz := bif_ok_f hz hc108
 refine W_skip (nm_then ?_)
 exact ⟨M42, cs57, d58, cs46, d47, uR_42, hF107, hS, hb57, hb46, hp48, hT27_1, hT27_3, hT27_5, hT27_6, rfl, hz⟩
 rintro T71 w69 ⟨M70, cs72, d73, cs74, d75, v76, hx78, hS, hb72, hb74, hp77, hT71_1, hT71_3, hT71_5, hT71_6, hT71_12, hz⟩
 replace hcx3 := Rep.mono hx78.1 hcx3
 replace hb28 := Rep.mono hx78.1 hb28
 replace hb38 := Rep.mono hx78.1 hb38
 replace hE := Mm.ext.trans hE hx78
 rw [takeFrame_j3] at hz
 refine W_seqJ (fun T' w' => ∃ M80 cs82 d83 v85 l84 y86, Mm.ext w.heap.size noX M70 M80 ∧ St w noX M80 [.box b55 cs72 44, .row v76 3 1, .box b36 cs38 48, .box b9 cs82 48, .box b7 cx3 38, .box b5 cs74 48] w' ∧ rep M80 cs82 d83 ∧ repL M80 v85 l84 ∧ T' 6 = .pointer (some ⟨b9, 0, none⟩) ∧ T' 7 = v85 ∧ T' 8 = .int .i64 y86 ∧ takeFrame_j4 d83 l84 y86 = some r) ?_ ?_
 have hF88 := Mm.ext.refl w.heap.size noX M70
 refine W_drawB (Rd M70 [.box b55 cs72 44, .box b7 cx3 38, .box b5 cs74 48]) (inL []) mixed hS fun w89 hS => ?_
 have hG90 := Mm.ext.refl w.heap.size noX M70
 have hR91 : Rd M70 [.box b55 cs72 44, .box b7 cx3 38, .box b5 cs74 48] w89 := Rd.of hS hG90 (by simp)
 have ha92 := (rr hb74)
 have hp93 : sl (sl cs74 (0) 201) 192 1 = [v76] := (sl_sub (by decide)).trans hp77
 refine WB_ld (i := 0) rfl (by kernel_rfl) rfl (inL_lt rfl) (by kernel_rfl) (by kernel_rfl) (Y_ldn ta48 hT71_3 (bvR 2 rfl) (Rep.len ha92)) hR91 <|WB_y (i := 1) rfl (by kernel_rfl) rfl (Y_move (.int .i64 x2) hT71_1) (fun _ => hR91) <|WB_y (i := 2) rfl (by kernel_rfl) rfl (Y_fa fa38_2 hT71_5) (fun _ => hR91) <|WB_ld (i := 3) rfl (by kernel_rfl) rfl (inL_lt rfl) (by kernel_rfl) (by kernel_rfl) (Y_ld1 (.int .i64 x3.id) ts3 rfl (bvR 1 rfl) (GFrame.p2 (rr hcx3))) hR91 <|WB_y (i := 4) rfl (by kernel_rfl) rfl (Y_fa fa44_2 hT71_12) (fun _ => hR91) ?_
 obtain ⟨v94, ev94, hv94⟩ := (GEntry.p2 (rr hb72))
 refine WB_ld (i := 5) rfl (by kernel_rfl) rfl (inL_lt rfl) (by kernel_rfl) (by kernel_rfl) (Y_ld1 v94 ts27 rfl (bvR 0 rfl) ev94) hR91 ?_
 have k95_0 := GFrame.w0 (Zr.zr : rep M70 (Zr.zc GFrame) (Zr.zd : GFrame)) (ri 2 : rep M70 _ _)
 have k95_1 := GFrame.w1 k95_0 (ri x2 : rep M70 _ _)
 have k95_2 := GFrame.w2 k95_1 (ri x3.id : rep M70 _ _)
 have k95_3 := GFrame.w4 k95_2 (repL_rep hv94)
 obtain ⟨d96, hd95, hz⟩ := bind_ok hz
 obtain ⟨cs95, hf95, ha95⟩ : ∃ cs, fillZ (([(0, 1), (1, 1), (2, 1), (3, 1), (4, 1), (5, 1), (6, 1)] : List (Nat × Nat))[·]?) (Zr.zc GFrame) [(0, .int .i64 2), (1, .int .i64 x2), (2, .int .i64 x3.id), (4, v94)] = some cs ∧ rep M70 cs d96 := ⟨_, (fz_cons (Zr.zr : rep M70 (Zr.zc GFrame) (Zr.zd : GFrame)) rfl rfl (Rep.len (ri 2 : rep M70 _ _)) (by decide) (fz_cons k95_0 rfl rfl (Rep.len (ri x2 : rep M70 _ _)) (by decide) (fz_cons k95_1 rfl rfl (Rep.len (ri x3.id : rep M70 _ _)) (by decide) (fz_cons k95_2 rfl (repL_cells hv94) (Rep.len (repL_rep hv94)) (by decide) fz_nil)))), rep_eq (x := ({ kind := 2, node := x2, id := x3.id, ops := Zr.zd, deps := d73.first, at_ := Zr.zd, vals := Zr.zd } : GFrame)) k95_3 hd95⟩
 refine WB_y (i := 6) rfl (by kernel_rfl) rfl (Y_build [(0, .int .i64 2), (1, .int .i64 x2), (2, .int .i64 x3.id), (4, v94)] tb38 (bpc rfl (bpc rfl (bpc rfl (bpc rfl bp0)))) hf95) (fun _ => hR91) ?_
 obtain ⟨d101, hd100, hz⟩ := bind_ok hz
 refine WB_two (i := 7) (j := 8) (by kernel_rfl) rfl rfl (O_bslice (α := GFrame) (l := ([d96] : List GFrame)) [.agg cs95.toArray] tl25 (bpc rfl bp0) rfl rfl (by decide) (by decide) (by decide) hS (brc ha95 br0) ?_) (O_sx 3 201 hS rfl hb28 hT71_6 rfl ha92 rfl rfl (Lf (rr hb28) ha92) hd100 ?_)
 intro v98 M98 w97 hx98 hv98 hS
 replace hcx3 := Rep.mono hx98.1 hcx3
 replace hb28 := Rep.mono hx98.1 hb28
 replace hb38 := Rep.mono hx98.1 hb38
 replace hb72 := Rep.mono hx98.1 hb72
 replace hb74 := Rep.mono hx98.1 hb74
 replace ha92 := Rep.mono hx98.1 ha92
 replace hv94 := repL.mono hx98.1 hv94
 replace ha95 := Rep.mono hx98.1 ha95
 replace hE := Mm.ext.trans hE hx98
 replace hF88 := Mm.ext.trans hF88 hx98
 replace hG90 := Mm.ext.trans hG90 hx98
 have hR103 : Rd M70 [.box b55 cs72 44, .box b7 cx3 38, .box b5 cs74 48] w97 := Rd.of hS hG90 (by simp)
 refine ⟨fun _ => hR103, ?_⟩
 refine WB_one (i := 8) (by kernel_rfl) rfl (O_sx 3 201 hS rfl hb28 hT71_6 rfl ha92 rfl rfl (Lf (rr hb28) ha92) hd100 ?_)
 intro cs100 w99 hb100 ha100 hs100 hS
 have hp102 : sl cs100 (0 + 192) 1 = [v76] := sl_in hs100 hp93 (by decide)
 have hR104 : Rd M70 [.box b55 cs72 44, .box b7 cx3 38, .box b5 cs74 48] w99 := Rd.of hS hG90 (by simp)
 refine ⟨fun _ => hR104, ?_⟩
 refine WB_y (i := 9) rfl (by kernel_rfl) rfl (Y_assign (v98) rfl) (fun _ => hR104) <|WB_y (i := 10) rfl (by kernel_rfl) rfl (Y_assign (.int .i64 0) rfl) (fun _ => hR104) ?_
 refine WB_done (by kernel_rfl) (nm_then ?_)
 exact ⟨M98, cs100, d101, v98, ([d96] : List GFrame), (0 : Int), hF88, hS, hb100, hv98, hT71_6, rfl, rfl, hz⟩
 intro cs100 w99 hb100 ha100 hs100 hS
 have hp102 : sl cs100 (0 + 192) 1 = [v76] := sl_in hs100 hp93 (by decide)
 have hR105 : Rd M70 [.box b55 cs72 44, .box b7 cx3 38, .box b5 cs74 48] w99 := Rd.of hS hG90 (by simp)
 refine ⟨fun _ => hR105, ?_⟩
 refine WB_one (i := 7) (by kernel_rfl) rfl (O_bslice (α := GFrame) (l := ([d96] : List GFrame)) [.agg cs95.toArray] tl25 (bpc rfl bp0) rfl rfl (by decide) (by decide) (by decide) hS (brc ha95 br0) ?_)
 intro v98 M98 w97 hx98 hv98 hS
 replace hcx3 := Rep.mono hx98.1 hcx3
 replace hb38 := Rep.mono hx98.1 hb38
 replace hb72 := Rep.mono hx98.1 hb72
 replace hb74 := Rep.mono hx98.1 hb74
 replace ha92 := Rep.mono hx98.1 ha92
 replace hv94 := repL.mono hx98.1 hv94
 replace ha95 := Rep.mono hx98.1 ha95
 replace hb100 := Rep.mono hx98.1 hb100
 replace hE := Mm.ext.trans hE hx98
 replace hF88 := Mm.ext.trans hF88 hx98
 replace hG90 := Mm.ext.trans hG90 hx98
 have hR106 : Rd M70 [.box b55 cs72 44, .box b7 cx3 38, .box b5 cs74 48] w97 := Rd.of hS hG90 (by simp)
 refine ⟨fun _ => hR106, ?_⟩
 refine WB_y (i := 9) rfl (by kernel_rfl) rfl (Y_assign (v98) rfl) (fun _ => hR106) <|WB_y (i := 10) rfl (by kernel_rfl) rfl (Y_assign (.int .i64 0) rfl) (fun _ => hR106) ?_
 refine WB_done (by kernel_rfl) (nm_then ?_)
 exact ⟨M98, cs100, d101, v98, ([d96] : List GFrame), (0 : Int), hF88, hS, hb100, hv98, hT71_6, rfl, rfl, hz⟩
 rintro T81 w79 ⟨M80, cs82, d83, v85, l84, y86, hx87, hS, hb82, hv85, hT81_6, hT81_7, hT81_8, hz⟩
 replace hcx3 := Rep.mono hx87.1 hcx3
 replace hb38 := Rep.mono hx87.1 hb38
 replace hb72 := Rep.mono hx87.1 hb72
 replace hb74 := Rep.mono hx87.1 hb74
 replace hE := Mm.ext.trans hE hx87
 rw [takeFrame_j4] at hz
 cases hz
 exact W_ret (rt_then (R_ctt (j := 3) rfl hT81_6 hT81_7 hT81_8 (by rw [Rep.len hb82]; exact ta48) hS rfl (Gives.mk (St.dropB (St.dropB (St.dropB (St.dropB (St.drop (St.dropB hS hb55)) hb36) hb9) hb7) hb5) hE ⟨_, _, rfl, hb82, hv85⟩)))
 replace hz := bif_ok_f hz hc59
 refine W_skip (nm_then ?_)
 refine W_seqJ (fun T' w' => ∃ M139 cs141 d142 cs143 d144 v145, Mm.ext w.heap.size noX M42 M139 ∧ St w noX M139 [.box b55 cs141 44, .row v145 3 1, .box b36 cs38 48, .box b9 cs28 48, .box b7 cx3 38, .box b5 cs143 48] w' ∧ rep M139 cs141 d142 ∧ rep M139 cs143 d144 ∧ sl cs143 (0 + 192) 1 = [v145] ∧ T' 1 = .int .i64 x2 ∧ T' 3 = .pointer (some ⟨b5, 0, none⟩) ∧ T' 5 = .pointer (some ⟨b7, 0, none⟩) ∧ T' 6 = .pointer (some ⟨b9, 0, none⟩) ∧ T' 10 = .int .i64 r33 ∧ takeFrame_j5 x2 x3 r33 d142 d144 = some r) ?_ ?_
 have hF197 := Mm.ext.refl w.heap.size noX M42
 refine W_seq <|W_reg <|WL_y (Y_fa fa44_0 rfl) <|WL_y (Y_ld1 (.int .i64 d58.state) ts3 rfl (hS.bvB 0 rfl) (GEntry.p0 (rr hb57))) <|WL_y (Y_lss rfl rfl) ?_
 refine WL_nil (nm_then ?_)
 refine W_cond rfl (fun hc198 => ?_) (fun hc198 => ?_)
 replace hz := bif_ok_t hz hc198
 refine W_seqJ (fun T' w' => ∃ M200 cs202 d203, Mm.ext w.heap.size noX M42 M200 ∧ St w noX M200 [.box b55 cs202 44, .row uR_42 3 1, .box b36 cs38 48, .box b9 cs28 48, .box b7 cx3 38, .box b5 cs46 48] w' ∧ rep M200 cs202 d203 ∧ T' 1 = .int .i64 x2 ∧ T' 3 = .pointer (some ⟨b5, 0, none⟩) ∧ T' 5 = .pointer (some ⟨b7, 0, none⟩) ∧ T' 6 = .pointer (some ⟨b9, 0, none⟩) ∧ T' 10 = .int .i64 r33 ∧ T' 12 = .pointer (some ⟨b55, 0, none⟩) ∧ takeFrame_j8 fu x2 x3 r33 d47 d203 = some r) ?_ ?_
 have hF308 := Mm.ext.refl w.heap.size noX M42
 refine W_seq <|W_reg <|WL_y (Y_fa fa44_0 rfl) <|WL_y (Y_ld1 (.int .i64 d58.state) ts3 rfl (hS.bvB 0 rfl) (GEntry.p0 (rr hb57))) <|WL_y (Y_eql rfl rfl) ?_
 refine WL_nil (nm_then ?_)
 refine W_cond rfl (fun hc309 => ?_) (fun hc309 => ?_)
 replace hz := bif_ok_t hz hc309
 refine W_reg ?_
 have ha310 := (rr hb46)
 have hp311 : sl (sl cs46 (0) 201) 192 1 = [uR_42] := (sl_sub (by decide)).trans hp48
 refine WL_y (Y_ldn ta48 hT27_3 (hS.bvB 5 rfl) (Rep.len ha310)) <|WL_y (Y_fa fa38_2 hT27_5) <|WL_y (Y_ld1 (.int .i64 x3.id) ts3 rfl (hS.bvB 4 rfl) (GFrame.p2 (rr hcx3))) <|WL_y (Y_fa fa38_3 hT27_5) ?_
 obtain ⟨v312, ev312, hv312⟩ := (GFrame.p3 (rr hcx3))
 refine WL_y (Y_ld1 v312 ts22 rfl (hS.bvB 4 rfl) ev312) <|WL_y (Y_move (.int .i64 r33) rfl) ?_
 obtain ⟨r315, hr314, hz⟩ := bind_ok hz
 refine WL_c (O_mem (vs := [.agg (sl cs46 (0) 201).toArray, .int .i64 x3.id, v312, .int .i64 r33]) (rv := (fun M' u => repL M' u r315)) cb57 (args4 rfl rfl rfl rfl) hS (before_ok hS.agree ha310 hv312 hr314) ?_)
 intro u314 M314 w313 hx314 hu314 hS
 have f314 : repL M314 u314 r315 := hu314
 replace hcx3 := Rep.mono hx314.1 hcx3
 replace hb28 := Rep.mono hx314.1 hb28
 replace hb38 := Rep.mono hx314.1 hb38
 replace hb46 := Rep.mono hx314.1 hb46
 replace hb57 := Rep.mono hx314.1 hb57
 replace ha310 := Rep.mono hx314.1 ha310
 replace hv312 := repL.mono hx314.1 hv312
 replace hE := Mm.ext.trans hE hx314
 replace hF197 := Mm.ext.trans hF197 hx314
 replace hF308 := Mm.ext.trans hF308 hx314
 refine WL_y (Y_fa fa44_2 rfl) ?_
 obtain ⟨d318, hd317, hz⟩ := bind_ok hz
 refine WL_c (O_sx 0 1 hS rfl hb57 rfl rfl (repL_rep f314) (repL_cells f314) rfl (GEntry.u2 (rr hb57) (Lf (GEntry.p2 (rr hb57)) (repL_rep f314))) hd317 ?_)
 intro cs317 w316 hb317 ha317 hs317 hS
 refine WL_nil (nm_then ?_)
 exact ⟨M314, cs317, d318, hF308, hS, hb317, hT27_1, hT27_3, hT27_5, hT27_6, rfl, rfl, hz⟩
 replace hz := bif_ok_f hz hc309
 refine W_skip (nm_then ?_)
 exact ⟨M42, cs57, d58, hF308, hS, hb57, hT27_1, hT27_3, hT27_5, hT27_6, rfl, rfl, hz⟩
 rintro T201 w199 ⟨M200, cs202, d203, hx204, hS, hb202, hT201_1, hT201_3, hT201_5, hT201_6, hT201_10, hT201_12, hz⟩
 replace hcx3 := Rep.mono hx204.1 hcx3
 replace hb28 := Rep.mono hx204.1 hb28
 replace hb38 := Rep.mono hx204.1 hb38
 replace hb46 := Rep.mono hx204.1 hb46
 replace hE := Mm.ext.trans hE hx204
 replace hF197 := Mm.ext.trans hF197 hx204
 rw [takeFrame_j8] at hz
 refine W_seq <|W_drawB (Rd M200 [.box b7 cx3 38]) (inL []) mixed hS fun w205 hS => ?_
 have hG206 := Mm.ext.refl w.heap.size noX M200
 have hR207 : Rd M200 [.box b7 cx3 38] w205 := Rd.of hS hG206 (by simp)
 refine WB_y (i := 0) rfl (by kernel_rfl) rfl (Y_fa fa38_3 hT201_5) (fun _ => hR207) ?_
 obtain ⟨v208, ev208, hv208⟩ := (GFrame.p3 (rr hcx3))
 refine WB_ld (i := 1) rfl (by kernel_rfl) rfl (inL_lt rfl) (by kernel_rfl) (by kernel_rfl) (Y_ld1 v208 ts22 rfl (bvR 0 rfl) ev208) hR207 <|WB_y (i := 2) rfl (by kernel_rfl) rfl (Y_fa fa38_4 hT201_5) (fun _ => hR207) ?_
 obtain ⟨v209, ev209, hv209⟩ := (GFrame.p4 (rr hcx3))
 refine WB_ld (i := 3) rfl (by kernel_rfl) rfl (inL_lt rfl) (by kernel_rfl) (by kernel_rfl) (Y_ld1 v209 ts27 rfl (bvR 0 rfl) ev209) hR207 <|WB_y (i := 4) rfl (by kernel_rfl) rfl (Y_fa fa44_0 hT201_12) (fun _ => hR207) ?_
 obtain ⟨d212, hd211, hz⟩ := bind_ok hz
 refine WB_one (i := 5) (by kernel_rfl) rfl (O_sx 0 1 hS rfl hb202 rfl rfl (ri 2 : rep M200 _ _) rfl rfl (GEntry.u0 (rr hb202) (Lf (GEntry.p0 (rr hb202)) (ri 2 : rep M200 _ _))) hd211 ?_)
 intro cs211 w210 hb211 ha211 hs211 hS
 have hR213 : Rd M200 [.box b7 cx3 38] w210 := Rd.of hS hG206 (by simp)
 refine ⟨fun _ => hR213, ?_⟩
 refine WB_y (i := 6) rfl (by kernel_rfl) rfl (Y_fa fa44_1 hT201_12) (fun _ => hR213) ?_
 obtain ⟨d216, hd215, hz⟩ := bind_ok hz
 refine WB_one (i := 7) (by kernel_rfl) rfl (O_sx 0 1 hS rfl hb211 rfl rfl (repL_rep hv208) (repL_cells hv208) rfl (GEntry.u1 (rr hb211) (Lf (GEntry.p1 (rr hb211)) (repL_rep hv208))) hd215 ?_)
 intro cs215 w214 hb215 ha215 hs215 hS
 have hR217 : Rd M200 [.box b7 cx3 38] w214 := Rd.of hS hG206 (by simp)
 refine ⟨fun _ => hR217, ?_⟩
 refine WB_y (i := 8) rfl (by kernel_rfl) rfl (Y_fa fa44_3 hT201_12) (fun _ => hR217) ?_
 obtain ⟨d220, hd219, hz⟩ := bind_ok hz
 refine WB_one (i := 9) (by kernel_rfl) rfl (O_sx 0 1 hS rfl hb215 rfl rfl (repL_rep hv209) (repL_cells hv209) rfl (GEntry.u3 (rr hb215) (Lf (GEntry.p3 (rr hb215)) (repL_rep hv209))) hd219 ?_)
 intro cs219 w218 hb219 ha219 hs219 hS
 have hR221 : Rd M200 [.box b7 cx3 38] w218 := Rd.of hS hG206 (by simp)
 refine ⟨fun _ => hR221, ?_⟩
 refine WB_done (by kernel_rfl) (nm_then ?_)
 refine W_seq <|W_reg <|WL_y (Y_fa fa38_2 hT201_5) <|WL_y (Y_ld1 (.int .i64 x3.id) ts3 rfl (hS.bvB 4 rfl) (GFrame.p2 (rr hcx3))) ?_
 have ha222 := (rr hb219)
 refine WL_y (Y_ldn ta44 hT201_12 (hS.bvB 0 rfl) (Rep.len ha222)) <|WL_y (Y_fa fa48_0 hT201_3) ?_
 obtain ⟨u223, hx224, hz⟩ := bind_ok hz
 obtain ⟨hx224a, hx224b⟩ := inR_some hx224
 refine WL_y (Y_ixA ia45 rfl rfl hx224a hx224b) ?_
 obtain ⟨x227, hx228, hz⟩ := bind_ok hz
 obtain ⟨a229, hx230, hz⟩ := bind_ok hz
 obtain ⟨d231, hd226, hz⟩ := bind_ok hz
 have hq233 := (idxV_some hx228)
 refine WL_c (O_sx 5 6 hS rfl hb46 rfl rfl ha222 rfl rfl (GNode.u0 (rr hb46) (vu (k := 6) rfl rfl (GNode.p0 (rr hb46)) (Lf (vp (k := 6) rfl rfl (GNode.p0 (rr hb46)) hx228) ha222) hx230)) hd226 ?_)
 intro cs226 w225 hb226 ha226 hs226 hS
 have hp232 := (ha226 (by omega)).trans hp48
 refine WL_nil (nm_then ?_)
 refine W_seq <|W_reg ?_
 have ha234 := (rr hb226)
 have hp235 : sl (sl cs226 (0) 201) 192 1 = [uR_42] := (sl_sub (by decide)).trans hp232
 refine WL_y (Y_ldn ta48 hT201_3 (hS.bvB 5 rfl) (Rep.len ha234)) ?_
 obtain ⟨r238, hr237, hz⟩ := bind_ok hz
 refine WL_c (O_mem (vs := [.agg (sl cs226 (0) 201).toArray]) (rv := (fun M' u => ∃ cs, u = .agg cs.toArray ∧ rep M' cs r238)) cb58 (args1 rfl) hS (graphOf_ok hS.agree ha234 hr237) ?_)
 intro u237 M237 w236 hx237 hu237 hS
 obtain ⟨c237, hq237, f237⟩ := hu237
 subst hq237
 replace hcx3 := Rep.mono hx237.1 hcx3
 replace hb28 := Rep.mono hx237.1 hb28
 replace hb38 := Rep.mono hx237.1 hb38
 replace hb219 := Rep.mono hx237.1 hb219
 replace hb226 := Rep.mono hx237.1 hb226
 replace ha234 := Rep.mono hx237.1 ha234
 replace hE := Mm.ext.trans hE hx237
 replace hF197 := Mm.ext.trans hF197 hx237
 refine WL_c (O_alloc tz64 hS ?_)
 intro b240 w239 hb240 hS
 have zb240 : rep M237 (Zr.zc GGraph) (Zr.zd : GGraph) := Zr.zr
 obtain ⟨d243, hd242, hz⟩ := bind_ok hz
 refine WL_c (O_sx 0 64 hS rfl zb240 rfl rfl f237 rfl rfl (Lf (rr zb240) f237) hd242 ?_)
 intro cs242 w241 hb242 ha242 hs242 hS
 refine WL_nil (nm_then ?_)
 refine W_seq <|W_reg <|WL_y (Y_move (.int .i64 0) rfl) ?_
 refine WL_nil (nm_then ?_)
 refine W_block ?_
 refine W_loop (fun k253 T' w' => ∃ M245 cs247 d248 v249 y251, Mm.ext w.heap.size noX M237 M245 ∧ St w noX M245 [.box b240 cs242 64, .box b55 cs219 44, .row v249 3 1, .box b36 cs38 48, .box b9 cs28 48, .box b7 cx3 38, .box b5 cs247 48] w' ∧ rep M245 cs247 d248 ∧ sl cs247 (0 + 192) 1 = [v249] ∧ T' 1 = .int .i64 x2 ∧ T' 3 = .pointer (some ⟨b5, 0, none⟩) ∧ T' 5 = .pointer (some ⟨b7, 0, none⟩) ∧ T' 6 = .pointer (some ⟨b9, 0, none⟩) ∧ T' 10 = .int .i64 r33 ∧ T' 13 = .pointer (some ⟨b240, 0, none⟩) ∧ T' 125 = .int .i64 y251 ∧ takeFrame_l1 fu x2 x3 r33 d220 d243 k253 d248 y251 = some r) fu ?_ ?_ ?_
 exact ⟨M237, cs226, d231, uR_42, (0 : Int), (Mm.ext.refl _ _ _), hS, hb226, hp232, hT201_1, hT201_3, hT201_5, hT201_6, hT201_10, rfl, rfl, hz⟩
 rintro T' w' ⟨_, _, _, _, _, _, _, _, _, _, _, _, _, _, _, _, hz⟩
 rw [takeFrame_l1] at hz
 cases hz
 intro k253
 rintro T246 w244 ⟨M245, cs247, d248, v249, y251, hx255, hS, hb247, hp250, hT246_1, hT246_3, hT246_5, hT246_6, hT246_10, hT246_13, hT246_125, hz⟩
 replace hcx3 := Rep.mono hx255.1 hcx3
 replace hb28 := Rep.mono hx255.1 hb28
 replace hb38 := Rep.mono hx255.1 hb38
 replace hb219 := Rep.mono hx255.1 hb219
 replace hb242 := Rep.mono hx255.1 hb242
 replace hE := Mm.ext.trans hE hx255
 replace hF197 := Mm.ext.trans hF197 hx255
 have hF254 := hx255
 rw [takeFrame_l1] at hz
 obtain ⟨rec252, hrec252⟩ : ∃ f, f = takeFrame_l1 fu x2 x3 r33 d220 d243 k253 := ⟨_, rfl⟩
 rw [← hrec252] at hz
 refine W_seq <|W_reg <|WL_y (Y_lss hT246_125 rfl) ?_
 refine WL_nil (nm_then ?_)
 refine W_seq ?_
 refine W_cond rfl (fun hc256 => ?_) (fun hc256 => ?_)
 replace hz := bif_ok_t hz hc256
 refine W_skip (nm_then ?_)
 refine W_seqJ (fun T' w' => ∃ M258 cs260 d261 v262, Mm.ext w.heap.size noX M245 M258 ∧ St w noX M258 [.box b240 cs242 64, .box b55 cs219 44, .row v262 3 1, .box b36 cs38 48, .box b9 cs28 48, .box b7 cx3 38, .box b5 cs260 48] w' ∧ rep M258 cs260 d261 ∧ sl cs260 (0 + 192) 1 = [v262] ∧ T' 1 = .int .i64 x2 ∧ T' 3 = .pointer (some ⟨b5, 0, none⟩) ∧ T' 5 = .pointer (some ⟨b7, 0, none⟩) ∧ T' 6 = .pointer (some ⟨b9, 0, none⟩) ∧ T' 10 = .int .i64 r33 ∧ T' 13 = .pointer (some ⟨b240, 0, none⟩) ∧ T' 125 = .int .i64 y251 ∧ takeFrame_j9 y251 rec252 d261 = some r) ?_ ?_
 have hF265 := Mm.ext.refl w.heap.size noX M245
 refine W_block <|W_seq <|W_reg <|WL_y (Y_move (.int .i64 y251) hT246_125) <|WL_y (Y_assign (.int .i64 y251) rfl) ?_
 refine WL_nil (nm_then ?_)
 refine W_seq <|W_seq <|W_reg <|WL_y (Y_move (.int .i64 y251) rfl) <|WL_y (Y_fa fa48_0 hT246_3) ?_
 obtain ⟨u266, hx267, hz⟩ := bind_ok hz
 obtain ⟨hx267a, hx267b⟩ := inR_some hx267
 refine WL_y (Y_ixA ia45 rfl rfl hx267a hx267b) <|WL_y (Y_fa fa44_0 rfl) ?_
 obtain ⟨x268, hx269, hz⟩ := bind_ok hz
 refine WL_y (Y_ld1 (.int .i64 x268.state) ts3 rfl (hS.bvB 6 rfl) (GEntry.p0 (vp (k := 6) rfl rfl (GNode.p0 (rr hb247)) hx269))) <|WL_y (Y_neq rfl rfl) ?_
 refine WL_nil (nm_then ?_)
 refine W_cond rfl (fun hc270 => ?_) (fun hc270 => ?_)
 replace hz := bif_ok_t hz hc270
 refine W_exit <|ex_then <|ex_hit ?_
 refine (nm_then ?_)
 exact ⟨M245, cs247, d248, v249, hF265, hS, hb247, hp250, hT246_1, hT246_3, hT246_5, hT246_6, hT246_10, hT246_13, hT246_125, hz⟩
 replace hz := bif_ok_f hz hc270
 refine W_skip (nm_then ?_)
 refine W_seq <|W_reg ?_
 have ha271 := (rr hb242)
 refine WL_y (Y_ldn ta64 hT246_13 (hS.bvB 0 rfl) (Rep.len ha271)) <|WL_y (Y_move (.int .i64 y251) rfl) ?_
 obtain ⟨r274, hr273, hz⟩ := bind_ok hz
 refine WL_c (O_mem (vs := [.agg (sl cs242 (0) 64).toArray, .int .i64 y251]) (rv := (fun M' u => repL M' u r274)) cb59 (args2 rfl rfl) hS (orderOf_ok hS.agree ha271 hr273) ?_)
 intro u273 M273 w272 hx273 hu273 hS
 have f273 : repL M273 u273 r274 := hu273
 replace hcx3 := Rep.mono hx273.1 hcx3
 replace hb28 := Rep.mono hx273.1 hb28
 replace hb38 := Rep.mono hx273.1 hb38
 replace hb219 := Rep.mono hx273.1 hb219
 replace hb242 := Rep.mono hx273.1 hb242
 replace hb247 := Rep.mono hx273.1 hb247
 replace ha271 := Rep.mono hx273.1 ha271
 replace hE := Mm.ext.trans hE hx273
 replace hF197 := Mm.ext.trans hF197 hx273
 replace hF254 := Mm.ext.trans hF254 hx273
 replace hF265 := Mm.ext.trans hF265 hx273
 obtain ⟨a275, c275, hv275, _⟩ := repL_shape f273
 refine WL_y (Y_lenL Try.underlying27 (tr2 hv275 rfl)) <|WL_y (Y_move (.int .i64 0) rfl) ?_
 refine WL_nil (nm_then ?_)
 refine W_block ?_
 refine W_loop (fun k285 T' w' => ∃ M277 cs279 d280 v281 y283, Mm.ext w.heap.size noX M273 M277 ∧ St w noX M277 [.box b240 cs242 64, .box b55 cs219 44, .row v281 3 1, .box b36 cs38 48, .box b9 cs28 48, .box b7 cx3 38, .box b5 cs279 48] w' ∧ rep M277 cs279 d280 ∧ sl cs279 (0 + 192) 1 = [v281] ∧ T' 1 = .int .i64 x2 ∧ T' 3 = .pointer (some ⟨b5, 0, none⟩) ∧ T' 5 = .pointer (some ⟨b7, 0, none⟩) ∧ T' 6 = .pointer (some ⟨b9, 0, none⟩) ∧ T' 10 = .int .i64 r33 ∧ T' 13 = .pointer (some ⟨b240, 0, none⟩) ∧ T' 125 = .int .i64 y251 ∧ T' 136 = u273 ∧ T' 137 = .int .i64 (r274.length : Int) ∧ T' 138 = .int .i64 y283 ∧ takeFrame_l2 fu r33 y251 rec252 r274 k285 d280 y283 = some r) fu ?_ ?_ ?_
 exact ⟨M273, cs247, d248, v249, (0 : Int), (Mm.ext.refl _ _ _), hS, hb247, hp250, hT246_1, hT246_3, hT246_5, hT246_6, hT246_10, hT246_13, hT246_125, rfl, rfl, rfl, hz⟩
 rintro T' w' ⟨_, _, _, _, _, _, _, _, _, _, _, _, _, _, _, _, _, _, _, hz⟩
 rw [takeFrame_l2] at hz
 cases hz
 intro k285
 rintro T278 w276 ⟨M277, cs279, d280, v281, y283, hx287, hS, hb279, hp282, hT278_1, hT278_3, hT278_5, hT278_6, hT278_10, hT278_13, hT278_125, hT278_136, hT278_137, hT278_138, hz⟩
 replace hcx3 := Rep.mono hx287.1 hcx3
 replace hb28 := Rep.mono hx287.1 hb28
 replace hb38 := Rep.mono hx287.1 hb38
 replace hb219 := Rep.mono hx287.1 hb219
 replace hb242 := Rep.mono hx287.1 hb242
 replace f273 := repL.mono hx287.1 f273
 replace hE := Mm.ext.trans hE hx287
 replace hF197 := Mm.ext.trans hF197 hx287
 replace hF254 := Mm.ext.trans hF254 hx287
 replace hF265 := Mm.ext.trans hF265 hx287
 have hF286 := hx287
 rw [takeFrame_l2] at hz
 obtain ⟨rec284, hrec284⟩ : ∃ f, f = takeFrame_l2 fu r33 y251 rec252 r274 k285 := ⟨_, rfl⟩
 rw [← hrec284] at hz
 refine W_seq <|W_reg <|WL_y (Y_lss hT278_138 hT278_137) ?_
 refine WL_nil (nm_then ?_)
 refine W_seq ?_
 refine W_cond rfl (fun hc288 => ?_) (fun hc288 => ?_)
 replace hz := bif_ok_t hz hc288
 refine W_skip (nm_then ?_)
 refine W_seqJ (fun T' w' => ∃ M290 cs292 d293 v294, Mm.ext w.heap.size noX M277 M290 ∧ St w noX M290 [.box b240 cs242 64, .box b55 cs219 44, .row v294 3 1, .box b36 cs38 48, .box b9 cs28 48, .box b7 cx3 38, .box b5 cs292 48] w' ∧ rep M290 cs292 d293 ∧ sl cs292 (0 + 192) 1 = [v294] ∧ T' 1 = .int .i64 x2 ∧ T' 3 = .pointer (some ⟨b5, 0, none⟩) ∧ T' 5 = .pointer (some ⟨b7, 0, none⟩) ∧ T' 6 = .pointer (some ⟨b9, 0, none⟩) ∧ T' 10 = .int .i64 r33 ∧ T' 13 = .pointer (some ⟨b240, 0, none⟩) ∧ T' 125 = .int .i64 y251 ∧ T' 136 = u273 ∧ T' 137 = .int .i64 (r274.length : Int) ∧ T' 138 = .int .i64 y283 ∧ takeFrame_j10 y283 rec284 d293 = some r) ?_ ?_
 have hF297 := Mm.ext.refl w.heap.size noX M277
 refine W_block <|W_seq <|W_reg ?_
 obtain ⟨x299, hx298, hz⟩ := bind_ok hz
 obtain ⟨b298, o298, c298, p298, hv298, hi298, hj298, hM298, hr298⟩ := repL_at f273 hx298
 replace hr298 : rep _ (sl p298 (o298 + Int.toNat y283 * 1) 1) x299 := hr298
 refine WL_y (Y_ixL il27 hT278_136 hv298 hT278_138 hi298 hj298) <|WL_y (Y_ld1 (.int .i64 x299) ts3 rfl (hS.bvM hM298) hr298) <|WL_y (Y_assign (.int .i64 x299) rfl) ?_
 refine WL_nil (nm_then ?_)
 refine W_seq <|W_reg <|WL_y (Y_move (.int .i64 x299) rfl) <|WL_y (Y_fa fa48_0 hT278_3) ?_
 obtain ⟨u300, hx301, hz⟩ := bind_ok hz
 obtain ⟨hx301a, hx301b⟩ := inR_some hx301
 refine WL_y (Y_ixA ia45 rfl rfl hx301a hx301b) <|WL_y (Y_fa fa44_0 rfl) ?_
 obtain ⟨x302, hx303, hz⟩ := bind_ok hz
 refine WL_y (Y_ld1 (.int .i64 x302.state) ts3 rfl (hS.bvB 6 rfl) (GEntry.p0 (vp (k := 6) rfl rfl (GNode.p0 (rr hb279)) hx303))) <|WL_y (Y_eql rfl rfl) ?_
 refine WL_nil (nm_then ?_)
 refine W_cond rfl (fun hc304 => ?_) (fun hc304 => ?_)
 replace hz := bif_ok_t hz hc304
 refine W_reg <|WL_y (Y_move (.int .i64 x299) rfl) <|WL_y (Y_move (.int .i64 r33) hT278_10) ?_
 obtain ⟨r307, hr306, hz⟩ := bind_ok hz
 refine WL_c (O_lend (vs := [.pointer (some ⟨b5, 0, none⟩), .int .i64 x299, .int .i64 r33]) (L := [.box b5 cs279 48, .row v281 3 1]) (R := [.box b240 cs242 64, .box b55 cs219 44, .box b36 cs38 48, .box b9 cs28 48, .box b7 cx3 38]) (rv := (fun M' u L' => ∃ k0 u1, u = .tuple #[] ∧ L' = [.box b5 k0 48, .row u1 3 1] ∧ rep M' k0 r307 ∧ sl k0 192 1 = [u1])) cb60 (args3 hT278_3 rfl rfl) hS (hS.sel [6, 2, 0, 1, 3, 4, 5] (by decide) rfl) (fun hS => executeOne_ok hS hb279 hp282 hr306) ?_)
 rintro u306 M306 w305 L306 hx306 ⟨k0_306, u1_306, rfl, hL306, f306_0, f306_1⟩ hS
 replace hS := hS _ hL306
 replace hcx3 := Rep.mono hx306.1 hcx3
 replace hb28 := Rep.mono hx306.1 hb28
 replace hb38 := Rep.mono hx306.1 hb38
 replace hb219 := Rep.mono hx306.1 hb219
 replace hb242 := Rep.mono hx306.1 hb242
 replace f273 := repL.mono hx306.1 f273
 replace hb279 := Rep.mono hx306.1 hb279
 replace hE := Mm.ext.trans hE hx306
 replace hF197 := Mm.ext.trans hF197 hx306
 replace hF254 := Mm.ext.trans hF254 hx306
 replace hF265 := Mm.ext.trans hF265 hx306
 replace hF286 := Mm.ext.trans hF286 hx306
 replace hF297 := Mm.ext.trans hF297 hx306
 refine WL_nil (nm_blk ?_)
 refine (nm_then ?_)
 exact ⟨M306, k0_306, r307, u1_306, hF297, (hS.sel (H' := [.box b240 cs242 64, .box b55 cs219 44, .row u1_306 3 1, .box b36 cs38 48, .box b9 cs28 48, .box b7 cx3 38, .box b5 k0_306 48]) [2, 3, 1, 4, 5, 6, 0] (by decide) rfl), f306_0, f306_1, hT278_1, hT278_3, hT278_5, hT278_6, hT278_10, hT278_13, hT278_125, hT278_136, hT278_137, hT278_138, hz⟩
 replace hz := bif_ok_f hz hc304
 refine W_skip (nm_blk ?_)
 refine (nm_then ?_)
 exact ⟨M277, cs279, d280, v281, hF297, hS, hb279, hp282, hT278_1, hT278_3, hT278_5, hT278_6, hT278_10, hT278_13, hT278_125, hT278_136, hT278_137, hT278_138, hz⟩
 rintro T291 w289 ⟨M290, cs292, d293, v294, hx296, hS, hb292, hp295, hT291_1, hT291_3, hT291_5, hT291_6, hT291_10, hT291_13, hT291_125, hT291_136, hT291_137, hT291_138, hz⟩
 replace hcx3 := Rep.mono hx296.1 hcx3
 replace hb28 := Rep.mono hx296.1 hb28
 replace hb38 := Rep.mono hx296.1 hb38
 replace hb219 := Rep.mono hx296.1 hb219
 replace hb242 := Rep.mono hx296.1 hb242
 replace f273 := repL.mono hx296.1 f273
 replace hE := Mm.ext.trans hE hx296
 replace hF197 := Mm.ext.trans hF197 hx296
 replace hF254 := Mm.ext.trans hF254 hx296
 replace hF265 := Mm.ext.trans hF265 hx296
 replace hF286 := Mm.ext.trans hF286 hx296
 rw [takeFrame_j10] at hz
 refine W_reg <|WL_y (Y_add hT291_138 rfl) <|WL_y (Y_move (.int .i64 (IntKind.wrap .i64 (y283 + 1))) rfl) ?_
 refine WL_nil (nm_then ?_)
 exact ⟨M290, cs292, d293, v294, (IntKind.wrap .i64 (y283 + 1)), hF286, hS, hb292, hp295, hT291_1, hT291_3, hT291_5, hT291_6, hT291_10, hT291_13, hT291_125, hT291_136, hT291_137, rfl, (by rw [← hrec284]; exact hz)⟩
 replace hz := bif_ok_f hz hc288
 refine W_exit <|ex_then <|ex_then <|ex_hit ?_
 refine (nm_blk ?_)
 refine (nm_then ?_)
 exact ⟨M277, cs279, d280, v281, hF265, hS, hb279, hp282, hT278_1, hT278_3, hT278_5, hT278_6, hT278_10, hT278_13, hT278_125, hz⟩
 rintro T259 w257 ⟨M258, cs260, d261, v262, hx264, hS, hb260, hp263, hT259_1, hT259_3, hT259_5, hT259_6, hT259_10, hT259_13, hT259_125, hz⟩
 replace hcx3 := Rep.mono hx264.1 hcx3
 replace hb28 := Rep.mono hx264.1 hb28
 replace hb38 := Rep.mono hx264.1 hb38
 replace hb219 := Rep.mono hx264.1 hb219
 replace hb242 := Rep.mono hx264.1 hb242
 replace hE := Mm.ext.trans hE hx264
 replace hF197 := Mm.ext.trans hF197 hx264
 replace hF254 := Mm.ext.trans hF254 hx264
 rw [takeFrame_j9] at hz
 refine W_reg <|WL_y (Y_add hT259_125 rfl) <|WL_y (Y_move (.int .i64 (IntKind.wrap .i64 (y251 + 1))) rfl) ?_
 refine WL_nil (nm_then ?_)
 exact ⟨M258, cs260, d261, v262, (IntKind.wrap .i64 (y251 + 1)), hF254, hS, hb260, hp263, hT259_1, hT259_3, hT259_5, hT259_6, hT259_10, hT259_13, rfl, (by rw [← hrec252]; exact hz)⟩
 replace hz := bif_ok_f hz hc256
 refine W_exit <|ex_then <|ex_then <|ex_hit ?_
 refine (nm_then ?_)
 exact ⟨M245, cs219, d220, cs247, d248, v249, hF197, (St.dropB hS hb240), hb219, hb247, hp250, hT246_1, hT246_3, hT246_5, hT246_6, hT246_10, hz⟩
 replace hz := bif_ok_f hz hc198
 refine W_skip (nm_then ?_)
 exact ⟨M42, cs57, d58, cs46, d47, uR_42, hF197, hS, hb57, hb46, hp48, hT27_1, hT27_3, hT27_5, hT27_6, rfl, hz⟩
 rintro T140 w138 ⟨M139, cs141, d142, cs143, d144, v145, hx147, hS, hb141, hb143, hp146, hT140_1, hT140_3, hT140_5, hT140_6, hT140_10, hz⟩
 replace hcx3 := Rep.mono hx147.1 hcx3
 replace hb28 := Rep.mono hx147.1 hb28
 replace hb38 := Rep.mono hx147.1 hb38
 replace hE := Mm.ext.trans hE hx147
 rw [takeFrame_j5] at hz
 refine W_seq <|W_reg <|WL_y (Y_move (.int .i64 x2) hT140_1) <|WL_y (Y_fa fa38_2 hT140_5) <|WL_y (Y_ld1 (.int .i64 x3.id) ts3 rfl (hS.bvB 4 rfl) (GFrame.p2 (rr hcx3))) ?_
 have k148_0 := GFrame.w0 (Zr.zr : rep M139 (Zr.zc GFrame) (Zr.zd : GFrame)) (ri 4 : rep M139 _ _)
 have k148_1 := GFrame.w1 k148_0 (ri x2 : rep M139 _ _)
 have k148_2 := GFrame.w2 k148_1 (ri x3.id : rep M139 _ _)
 obtain ⟨d149, hd148, hz⟩ := bind_ok hz
 obtain ⟨cs148, hf148, ha148⟩ : ∃ cs, fillZ (([(0, 1), (1, 1), (2, 1), (3, 1), (4, 1), (5, 1), (6, 1)] : List (Nat × Nat))[·]?) (Zr.zc GFrame) [(0, .int .i64 4), (1, .int .i64 x2), (2, .int .i64 x3.id)] = some cs ∧ rep M139 cs d149 := ⟨_, (fz_cons (Zr.zr : rep M139 (Zr.zc GFrame) (Zr.zd : GFrame)) rfl rfl (Rep.len (ri 4 : rep M139 _ _)) (by decide) (fz_cons k148_0 rfl rfl (Rep.len (ri x2 : rep M139 _ _)) (by decide) (fz_cons k148_1 rfl rfl (Rep.len (ri x3.id : rep M139 _ _)) (by decide) fz_nil))), rep_eq (x := ({ kind := 4, node := x2, id := x3.id, ops := Zr.zd, deps := Zr.zd, at_ := Zr.zd, vals := Zr.zd } : GFrame)) k148_2 hd148⟩
 refine WL_y (Y_build [(0, .int .i64 4), (1, .int .i64 x2), (2, .int .i64 x3.id)] tb38 (bpc rfl (bpc rfl (bpc rfl bp0))) hf148) ?_
 refine WL_c (O_bsliceR (α := GFrame) (l := ([d149] : List GFrame)) [.agg cs148.toArray] tp25 (bpc rfl bp0) rfl rfl (by decide) (by decide) (by decide) hS (brc ha148 br0) ?_)
 intro v151 M151 w150 hx151 hv151 hS
 replace hcx3 := Rep.mono hx151.1 hcx3
 replace hb28 := Rep.mono hx151.1 hb28
 replace hb38 := Rep.mono hx151.1 hb38
 replace hb141 := Rep.mono hx151.1 hb141
 replace hb143 := Rep.mono hx151.1 hb143
 replace ha148 := Rep.mono hx151.1 ha148
 replace hE := Mm.ext.trans hE hx151
 refine WL_y (Y_assign (v151) rfl) ?_
 refine WL_nil (nm_then ?_)
 refine W_seqJ (fun T' w' => ∃ M154 v157 l156, Mm.ext w.heap.size noX M151 M154 ∧ St w noX M154 [.row v157 38 7, .box b55 cs141 44, .row v145 3 1, .box b36 cs38 48, .box b9 cs28 48, .box b7 cx3 38, .box b5 cs143 48] w' ∧ repL M154 v157 l156 ∧ T' 3 = .pointer (some ⟨b5, 0, none⟩) ∧ T' 6 = .pointer (some ⟨b9, 0, none⟩) ∧ T' 17 = v157 ∧ takeFrame_j6 d144 l156 = some r) ?_ ?_
 have hF165 := Mm.ext.refl w.heap.size noX M151
 refine W_seq <|W_reg <|WL_y (Y_fa fa38_2 hT140_5) <|WL_y (Y_ld1 (.int .i64 x3.id) ts3 rfl (hS.bvB 5 rfl) (GFrame.p2 (rr hcx3))) <|WL_y (Y_fa fa48_0 hT140_3) ?_
 obtain ⟨u166, hx167, hz⟩ := bind_ok hz
 obtain ⟨hx167a, hx167b⟩ := inR_some hx167
 refine WL_y (Y_ixA ia45 rfl rfl hx167a hx167b) ?_
 obtain ⟨x168, hx169, hz⟩ := bind_ok hz
 have ha170 := (vp (k := 6) rfl rfl (GNode.p0 (rr hb143)) hx169)
 refine WL_y (Y_ldn ta44 rfl (hS.bvB 6 rfl) (Rep.len ha170)) ?_
 refine WL_c (O_alloc tz44 hS ?_)
 intro b172 w171 hb172 hS
 have zb172 : rep M151 (Zr.zc GEntry) (Zr.zd : GEntry) := Zr.zr
 obtain ⟨d175, hd174, hz⟩ := bind_ok hz
 refine WL_c (O_sx 0 6 hS rfl zb172 rfl rfl ha170 rfl rfl (Lf (rr zb172) ha170) hd174 ?_)
 intro cs174 w173 hb174 ha174 hs174 hS
 refine WL_nil (nm_then ?_)
 refine W_seqJ (fun T' w' => ∃ M177 c179, Mm.ext w.heap.size noX M151 M177 ∧ St w noX M177 [.box b172 cs174 44, .row v151 38 7, .box b55 cs141 44, .row v145 3 1, .box b36 cs38 48, .box b9 cs28 48, .box b7 cx3 38, .box b5 cs143 48] w' ∧ T' 1 = .int .i64 x2 ∧ T' 3 = .pointer (some ⟨b5, 0, none⟩) ∧ T' 5 = .pointer (some ⟨b7, 0, none⟩) ∧ T' 6 = .pointer (some ⟨b9, 0, none⟩) ∧ T' 17 = v151 ∧ T' 18 = .pointer (some ⟨b172, 0, none⟩) ∧ T' 171 = .bool c179 ∧ takeFrame_j7 x2 x3 d144 d149 d175 c179 = some r) ?_ ?_
 have hF191 := Mm.ext.refl w.heap.size noX M151
 refine W_reg <|WL_y (Y_fa fa44_0 rfl) <|WL_y (Y_ld1 (.int .i64 d175.state) ts3 rfl (hS.bvB 0 rfl) (GEntry.p0 (rr hb174))) <|WL_y (Y_eql rfl rfl) <|WL_y (Y_move (.bool (d175.state == 3)) rfl) ?_
 rcases ic hz with ⟨hc192, hz⟩ | ⟨hc192, hz⟩ <;> rw [hc192]
 refine WL_gy rfl rfl (Y_fa fa44_1 rfl) ?_
 obtain ⟨v193, ev193, hv193⟩ := (GEntry.p1 (rr hb174))
 refine WL_gy rfl rfl (Y_ld1 v193 ts22 rfl (hS.bvB 0 rfl) ev193) <|WL_gy rfl rfl (Y_move (.int .i64 r33) hT140_10) ?_
 obtain ⟨r196, hr195, hz⟩ := bind_ok hz
 replace hr195 := Option.some.inj hr195
 refine WL_g rfl rfl (O_val (vs := [v193, .int .i64 r33]) (v := .bool r196) cb56 (args2 rfl rfl) hS (hr195 ▸ (c_touchesShard hS.agree hv193)) ?_)
 intro w194 hS
 refine WL_y (Y_pick_t (.bool r196) rfl rfl) ?_
 refine WL_nil (nm_then ?_)
 exact ⟨M151, r196, hF191, hS, hT140_1, hT140_3, hT140_5, hT140_6, rfl, rfl, rfl, hz⟩
 refine WL_d 5 rfl ?_
 refine WL_nil (nm_then ?_)
 exact ⟨M151, false, hF191, hS, hT140_1, hT140_3, hT140_5, hT140_6, rfl, rfl, rfl, hz⟩
 rintro T178 w176 ⟨M177, c179, hx180, hS, hT178_1, hT178_3, hT178_5, hT178_6, hT178_17, hT178_18, hT178_171, hz⟩
 replace hcx3 := Rep.mono hx180.1 hcx3
 replace hb28 := Rep.mono hx180.1 hb28
 replace hb38 := Rep.mono hx180.1 hb38
 replace hb141 := Rep.mono hx180.1 hb141
 replace hb143 := Rep.mono hx180.1 hb143
 replace hv151 := repL.mono hx180.1 hv151
 replace hb174 := Rep.mono hx180.1 hb174
 replace hE := Mm.ext.trans hE hx180
 replace hF165 := Mm.ext.trans hF165 hx180
 rw [takeFrame_j7] at hz
 refine W_cond hT178_171 (fun hc181 => ?_) (fun hc181 => ?_)
 replace hz := bif_ok_t hz hc181
 refine W_reg <|WL_y (Y_move (v151) hT178_17) <|WL_y (Y_move (.int .i64 x2) hT178_1) <|WL_y (Y_fa fa38_2 hT178_5) <|WL_y (Y_ld1 (.int .i64 x3.id) ts3 rfl (hS.bvB 6 rfl) (GFrame.p2 (rr hcx3))) <|WL_y (Y_fa fa44_4 hT178_18) ?_
 obtain ⟨v182, ev182, hv182⟩ := (GEntry.p4 (rr hb174))
 refine WL_y (Y_ld1 v182 ts27 rfl (hS.bvB 0 rfl) ev182) <|WL_y (Y_fa fa44_5 hT178_18) ?_
 obtain ⟨v183, ev183, hv183⟩ := (GEntry.p5 (rr hb174))
 refine WL_y (Y_ld1 v183 ts27 rfl (hS.bvB 0 rfl) ev183) ?_
 have k184_0 := GFrame.w0 (Zr.zr : rep M177 (Zr.zc GFrame) (Zr.zd : GFrame)) (ri 5 : rep M177 _ _)
 have k184_1 := GFrame.w1 k184_0 (ri x2 : rep M177 _ _)
 have k184_2 := GFrame.w2 k184_1 (ri x3.id : rep M177 _ _)
 have k184_3 := GFrame.w5 k184_2 (repL_rep hv182)
 have k184_4 := GFrame.w6 k184_3 (repL_rep hv183)
 obtain ⟨d185, hd184, hz⟩ := bind_ok hz
 obtain ⟨cs184, hf184, ha184⟩ : ∃ cs, fillZ (([(0, 1), (1, 1), (2, 1), (3, 1), (4, 1), (5, 1), (6, 1)] : List (Nat × Nat))[·]?) (Zr.zc GFrame) [(0, .int .i64 5), (1, .int .i64 x2), (2, .int .i64 x3.id), (5, v182), (6, v183)] = some cs ∧ rep M177 cs d185 := ⟨_, (fz_cons (Zr.zr : rep M177 (Zr.zc GFrame) (Zr.zd : GFrame)) rfl rfl (Rep.len (ri 5 : rep M177 _ _)) (by decide) (fz_cons k184_0 rfl rfl (Rep.len (ri x2 : rep M177 _ _)) (by decide) (fz_cons k184_1 rfl rfl (Rep.len (ri x3.id : rep M177 _ _)) (by decide) (fz_cons k184_2 rfl (repL_cells hv182) (Rep.len (repL_rep hv182)) (by decide) (fz_cons k184_3 rfl (repL_cells hv183) (Rep.len (repL_rep hv183)) (by decide) fz_nil))))), rep_eq (x := ({ kind := 5, node := x2, id := x3.id, ops := Zr.zd, deps := Zr.zd, at_ := d175.at_, vals := d175.values } : GFrame)) k184_4 hd184⟩
 refine WL_y (Y_build [(0, .int .i64 5), (1, .int .i64 x2), (2, .int .i64 x3.id), (5, v182), (6, v183)] tb38 (bpc rfl (bpc rfl (bpc rfl (bpc rfl (bpc rfl bp0))))) hf184) ?_
 refine WL_c (O_bslice (α := GFrame) (l := ([d185] : List GFrame)) [.agg cs184.toArray] tl25 (bpc rfl bp0) rfl rfl (by decide) (by decide) (by decide) hS (brc ha184 br0) ?_)
 intro v187 M187 w186 hx187 hv187 hS
 replace hcx3 := Rep.mono hx187.1 hcx3
 replace hb28 := Rep.mono hx187.1 hb28
 replace hb38 := Rep.mono hx187.1 hb38
 replace hb141 := Rep.mono hx187.1 hb141
 replace hb143 := Rep.mono hx187.1 hb143
 replace hv151 := repL.mono hx187.1 hv151
 replace hb174 := Rep.mono hx187.1 hb174
 replace hv182 := repL.mono hx187.1 hv182
 replace hv183 := repL.mono hx187.1 hv183
 replace ha184 := Rep.mono hx187.1 ha184
 replace hE := Mm.ext.trans hE hx187
 replace hF165 := Mm.ext.trans hF165 hx187
 obtain ⟨l190, hr189, hz⟩ := bind_ok hz
 obtain ⟨hy189, hs189⟩ := app_some hr189
 refine WL_c (O_app (α := GFrame) (j := 1) tp25 hS rfl rfl rfl hv151 hv187 hy189 ?_)
 intro v189 M189 w188 hx189 hv189 hS
 rw [← hs189] at hv189
 clear hr189 hs189
 replace hcx3 := Rep.mono hx189.1 hcx3
 replace hb28 := Rep.mono hx189.1 hb28
 replace hb38 := Rep.mono hx189.1 hb38
 replace hb141 := Rep.mono hx189.1 hb141
 replace hb143 := Rep.mono hx189.1 hb143
 replace hv151 := repL.mono hx189.1 hv151
 replace hb174 := Rep.mono hx189.1 hb174
 replace hv182 := repL.mono hx189.1 hv182
 replace hv183 := repL.mono hx189.1 hv183
 replace ha184 := Rep.mono hx189.1 ha184
 replace hv187 := repL.mono hx189.1 hv187
 replace hE := Mm.ext.trans hE hx189
 replace hF165 := Mm.ext.trans hF165 hx189
 refine WL_y (Y_assign (v189) rfl) ?_
 refine WL_nil (nm_then ?_)
 exact ⟨M189, v189, l190, hF165, (St.dropB hS hb172), hv189, hT178_3, hT178_6, rfl, hz⟩
 replace hz := bif_ok_f hz hc181
 refine W_skip (nm_then ?_)
 exact ⟨M177, v151, ([d149] : List GFrame), hF165, (St.dropB hS hb172), hv151, hT178_3, hT178_6, hT178_17, hz⟩
 rintro T155 w153 ⟨M154, v157, l156, hx158, hS, hv157, hT155_3, hT155_6, hT155_17, hz⟩
 replace hcx3 := Rep.mono hx158.1 hcx3
 replace hb28 := Rep.mono hx158.1 hb28
 replace hb38 := Rep.mono hx158.1 hb38
 replace hb141 := Rep.mono hx158.1 hb141
 replace hb143 := Rep.mono hx158.1 hb143
 replace hE := Mm.ext.trans hE hx158
 rw [takeFrame_j6] at hz
 refine W_seq <|W_reg ?_
 have ha159 := (rr hb143)
 have hp160 : sl (sl cs143 (0) 201) 192 1 = [v145] := (sl_sub (by decide)).trans hp146
 refine WL_y (Y_ldn ta48 hT155_3 (hS.bvB 6 rfl) (Rep.len ha159)) <|WL_y (Y_move (v157) hT155_17) ?_
 obtain ⟨d163, hd162, hz⟩ := bind_ok hz
 refine WL_c (O_sx 4 201 hS rfl hb28 hT155_6 rfl ha159 rfl rfl (Lf (rr hb28) ha159) hd162 ?_)
 intro cs162 w161 hb162 ha162 hs162 hS
 have hp164 : sl cs162 (0 + 192) 1 = [v145] := sl_in hs162 hp160 (by decide)
 refine WL_d 2 rfl ?_
 refine WL_nil (nm_then ?_)
 cases hz
 exact W_ret (R_ctt (j := 4) rfl hT155_6 rfl rfl (by rw [Rep.len hb162]; exact ta48) hS rfl (Gives.mk (St.dropB (St.dropB (St.dropB (St.dropB (St.drop (St.dropB (St.drop hS) hb55)) hb36) hb9) hb7) hb5) hE ⟨_, _, rfl, hb162, hv157⟩))
def lawTakes_j1 (c20 : Bool) : Option Bool :=
 some c20
def lawTakesD (fu : Nat) : Option Bool :=
 (some ({ entries := Zr.zd, order := Zr.zd, values := Zr.zd } : GNode)).bind fun d2 =>
 (some ({ kind := 2, key := 1, n := 9 } : GOp)).bind fun d4 =>
 (some ({ kind := 3, node := 3, id := 4, ops := ([d4] : List GOp), deps := Zr.zd, at_ := Zr.zd, vals := Zr.zd } : GFrame)).bind fun d8 =>
 (nodeTakeD fu d2 3 d8).bind fun r11 =>
 (some r11.1).bind fun d16 =>
 (bif r11.2.2 == 0 then
 (bif (r11.2.1.length : Int) == 2 then
 (idxV d16.values 1).bind fun x26 =>
 (bif x26 == 9 then
 lawTakes_j1 ((d16.order.length : Int) == 1)
 else
 lawTakes_j1 false)
 else
 lawTakes_j1 false)
 else
 lawTakes_j1 false)
set_option maxRecDepth 100000 in
set_option maxHeartbeats 4000000 in
theorem lawTakes_ok {M : Mm} {w : World} {fu : Nat} {r : Bool} (hA : Agree M w)  (hz : lawTakesD fu = some r) :
    Calls Try.prog 24 #[] w (GivesV w (.bool r)) := by
 refine calls_W Try.func24 rfl 32 rfl rfl (by kernel_rfl) fun T hT => ?_
 clear hT
 have hE := Mm.ext.refl w.heap.size noX M
 have hS : St w noX M [] w := St.start hA
 rw [lawTakesD] at hz
 refine W_seq <|W_reg <|WL_y (Y_assign (.bool false) rfl) ?_
 refine WL_nil (nm_then ?_)
 refine W_seq <|W_reg ?_
 obtain ⟨d2, hd1, hz⟩ := bind_ok hz
 obtain ⟨cs1, hf1, ha1⟩ : ∃ cs, fillZ (([(0, 192), (192, 1), (193, 8)] : List (Nat × Nat))[·]?) (Zr.zc GNode) [] = some cs ∧ rep M cs d2 := ⟨_, fz_nil, rep_eq (x := ({ entries := Zr.zd, order := Zr.zd, values := Zr.zd } : GNode)) (Zr.zr : rep M (Zr.zc GNode) (Zr.zd : GNode)) hd1⟩
 refine WL_y (Y_build [] tb48 bp0 hf1) ?_
 have k3_0 := GOp.w0 (Zr.zr : rep M (Zr.zc GOp) (Zr.zd : GOp)) (ri 2 : rep M _ _)
 have k3_1 := GOp.w1 k3_0 (ri 1 : rep M _ _)
 have k3_2 := GOp.w2 k3_1 (ri 9 : rep M _ _)
 obtain ⟨d4, hd3, hz⟩ := bind_ok hz
 obtain ⟨cs3, hf3, ha3⟩ : ∃ cs, fillZ (([(0, 1), (1, 1), (2, 1)] : List (Nat × Nat))[·]?) (Zr.zc GOp) [(0, .int .i64 2), (1, .int .i64 1), (2, .int .i64 9)] = some cs ∧ rep M cs d4 := ⟨_, (fz_cons (Zr.zr : rep M (Zr.zc GOp) (Zr.zd : GOp)) rfl rfl (Rep.len (ri 2 : rep M _ _)) (by decide) (fz_cons k3_0 rfl rfl (Rep.len (ri 1 : rep M _ _)) (by decide) (fz_cons k3_1 rfl rfl (Rep.len (ri 9 : rep M _ _)) (by decide) fz_nil))), rep_eq (x := ({ kind := 2, key := 1, n := 9 } : GOp)) k3_2 hd3⟩
 refine WL_y (Y_build [(0, .int .i64 2), (1, .int .i64 1), (2, .int .i64 9)] tb78 (bpc rfl (bpc rfl (bpc rfl bp0))) hf3) ?_
 refine WL_c (O_bslice (α := GOp) (l := ([d4] : List GOp)) [.agg cs3.toArray] tl22 (bpc rfl bp0) rfl rfl (by decide) (by decide) (by decide) hS (brc ha3 br0) ?_)
 intro v6 M6 w5 hx6 hv6 hS
 replace ha1 := Rep.mono hx6.1 ha1
 replace ha3 := Rep.mono hx6.1 ha3
 replace hE := Mm.ext.trans hE hx6
 have k7_0 := GFrame.w0 (Zr.zr : rep M6 (Zr.zc GFrame) (Zr.zd : GFrame)) (ri 3 : rep M6 _ _)
 have k7_1 := GFrame.w1 k7_0 (ri 3 : rep M6 _ _)
 have k7_2 := GFrame.w2 k7_1 (ri 4 : rep M6 _ _)
 have k7_3 := GFrame.w3 k7_2 (repL_rep hv6)
 obtain ⟨d8, hd7, hz⟩ := bind_ok hz
 obtain ⟨cs7, hf7, ha7⟩ : ∃ cs, fillZ (([(0, 1), (1, 1), (2, 1), (3, 1), (4, 1), (5, 1), (6, 1)] : List (Nat × Nat))[·]?) (Zr.zc GFrame) [(0, .int .i64 3), (1, .int .i64 3), (2, .int .i64 4), (3, v6)] = some cs ∧ rep M6 cs d8 := ⟨_, (fz_cons (Zr.zr : rep M6 (Zr.zc GFrame) (Zr.zd : GFrame)) rfl rfl (Rep.len (ri 3 : rep M6 _ _)) (by decide) (fz_cons k7_0 rfl rfl (Rep.len (ri 3 : rep M6 _ _)) (by decide) (fz_cons k7_1 rfl rfl (Rep.len (ri 4 : rep M6 _ _)) (by decide) (fz_cons k7_2 rfl (repL_cells hv6) (Rep.len (repL_rep hv6)) (by decide) fz_nil)))), rep_eq (x := ({ kind := 3, node := 3, id := 4, ops := ([d4] : List GOp), deps := Zr.zd, at_ := Zr.zd, vals := Zr.zd } : GFrame)) k7_3 hd7⟩
 refine WL_y (Y_build [(0, .int .i64 3), (1, .int .i64 3), (2, .int .i64 4), (3, v6)] tb38 (bpc rfl (bpc rfl (bpc rfl (bpc rfl bp0)))) hf7) ?_
 obtain ⟨r11, hr10, hz⟩ := bind_ok hz
 refine WL_c (O_mem (vs := [.agg cs1.toArray, .int .i64 3, .agg cs7.toArray]) (rv := (fun M' u => ∃ c0 v1, u = .tuple #[.agg c0.toArray, v1, .int .i64 r11.2.2] ∧ rep M' c0 r11.1 ∧ repL M' v1 r11.2.1)) cb17 (args3 rfl rfl rfl) hS (nodeTake_ok hS.agree ha1 ha7 hr10) ?_)
 intro u10 M10 w9 hx10 hu10 hS
 obtain ⟨c10_0, v10_1, hq10, f10_0, f10_1⟩ := hu10
 subst hq10
 replace ha1 := Rep.mono hx10.1 ha1
 replace ha3 := Rep.mono hx10.1 ha3
 replace hv6 := repL.mono hx10.1 hv6
 replace ha7 := Rep.mono hx10.1 ha7
 replace hE := Mm.ext.trans hE hx10
 refine WL_y (Y_move (.tuple #[.agg c10_0.toArray, v10_1, .int .i64 r11.2.2]) rfl) <|WL_y (Y_extract (v := .agg c10_0.toArray) rfl rfl) <|WL_y (Y_extract (v := v10_1) rfl rfl) <|WL_y (Y_extract (v := .int .i64 r11.2.2) rfl rfl) ?_
 refine WL_c (O_alloc tz48 hS ?_)
 intro b13 w12 hb13 hS
 have zb13 : rep M10 (Zr.zc GNode) (Zr.zd : GNode) := Zr.zr
 obtain ⟨d16, hd15, hz⟩ := bind_ok hz
 refine WL_c (O_sx 0 201 hS rfl zb13 rfl rfl f10_0 rfl rfl (Lf (rr zb13) f10_0) hd15 ?_)
 intro cs15 w14 hb15 ha15 hs15 hS
 refine WL_d 2 rfl ?_
 refine WL_nil (nm_then ?_)
 refine W_seqJ (fun T' w' => ∃ M18 c20, Mm.ext w.heap.size noX M10 M18 ∧ St w noX M18 [.box b13 cs15 48] w' ∧ T' 0 = .bool c20 ∧ lawTakes_j1 c20 = some r) ?_ ?_
 have hF22 := Mm.ext.refl w.heap.size noX M10
 refine W_reg <|WL_y (Y_move (.int .i64 r11.2.2) rfl) <|WL_y (Y_eql rfl rfl) <|WL_y (Y_move (.bool (r11.2.2 == 0)) rfl) ?_
 rcases ic hz with ⟨hc23, hz⟩ | ⟨hc23, hz⟩ <;> rw [hc23]
 refine WL_gy rfl rfl (Y_move (v10_1) rfl) ?_
 obtain ⟨a24, c24, hv24, _⟩ := repL_shape f10_1
 refine WL_gy rfl rfl (Y_lenL Try.underlying25 (tr2 hv24 rfl)) <|WL_gy rfl rfl (Y_eql rfl rfl) <|WL_d 2 rfl ?_
 rcases ic hz with ⟨hc25, hz⟩ | ⟨hc25, hz⟩ <;> rw [hc25]
 refine WL_gy rfl rfl (Y_fa fa48_2 rfl) <|WL_gy rfl rfl (Y_ixA ia46 rfl rfl (by decide) (by decide)) ?_
 obtain ⟨x26, hx27, hz⟩ := bind_ok hz
 refine WL_gy rfl rfl (Y_ld1 (.int .i64 x26) ts3 rfl (hS.bvB 0 rfl) (vp (k := 1) rfl rfl (GNode.p2 (rr hb15)) hx27)) <|WL_gy rfl rfl (Y_eql rfl rfl) <|WL_d 2 rfl ?_
 rcases ic hz with ⟨hc28, hz⟩ | ⟨hc28, hz⟩ <;> rw [hc28]
 refine WL_gy rfl rfl (Y_fa fa48_1 rfl) ?_
 obtain ⟨v29, ev29, hv29⟩ := (GNode.p1 (rr hb15))
 refine WL_gy rfl rfl (Y_ld1 v29 ts27 rfl (hS.bvB 0 rfl) ev29) ?_
 obtain ⟨a30, c30, hv30, _⟩ := repL_shape hv29
 refine WL_gy rfl rfl (Y_lenL Try.underlying27 (tr2 hv30 rfl)) <|WL_gy rfl rfl (Y_eql rfl rfl) <|WL_d 2 rfl ?_
 refine WL_nil (nm_then ?_)
 exact ⟨M10, ((d16.order.length : Int) == 1), hF22, hS, rfl, hz⟩
 refine WL_d 6 rfl ?_
 refine WL_nil (nm_then ?_)
 exact ⟨M10, false, hF22, hS, rfl, hz⟩
 refine WL_d 12 rfl ?_
 refine WL_nil (nm_then ?_)
 exact ⟨M10, false, hF22, hS, rfl, hz⟩
 refine WL_d 17 rfl ?_
 refine WL_nil (nm_then ?_)
 exact ⟨M10, false, hF22, hS, rfl, hz⟩
 rintro T19 w17 ⟨M18, c20, hx21, hS, hT19_0, hz⟩
 replace hb15 := Rep.mono hx21.1 hb15
 replace hE := Mm.ext.trans hE hx21
 rw [lawTakes_j1] at hz
 cases hz
 exact W_ret (R_t1 rfl hT19_0 ⟨rfl, (St.dropB hS hb13).kept⟩)
end Go.Proofs.Ytopgdemmdcipcaa
namespace Go.Proofs.Ytopgdemmdcipcaa
inductive Path (E : Nat → Nat → Prop) : Nat → Nat → Prop where
  | refl (a : Nat) : Path E a a
  | tail {a b c : Nat} : Path E a b → E b c → Path E a c
section
variable {E : Nat → Nat → Prop}
theorem Path.trans {a b c : Nat} (h : Path E a b) (k : Path E b c) : Path E a c := by
  induction k with
  | refl => exact h
  | tail _ e ih => exact .tail ih e
theorem Path.one {a b : Nat} (h : E a b) : Path E a b := .tail (.refl a) h
theorem Path.head {a b c : Nat} (h : E a b) (k : Path E b c) : Path E a c := (Path.one h).trans k
theorem Path.closed {S : Nat → Prop} (hS : ∀ a b, S a → E a b → S b) {a b : Nat} (h : Path E a b) (ha : S a) : S b := by
  induction h with
  | refl => exact ha
  | tail _ e ih => exact hS _ _ ih e
structure Srch where
  mark : Nat → Nat
  low : Nat → Nat
  ring : Nat → Nat
  stack : List Nat
  next : Nat
def updN {α : Type} (f : Nat → α) (i : Nat) (x : α) : Nat → α := fun k => if k = i then x else f k
theorem updN_same {α : Type} (f : Nat → α) (i : Nat) (x : α) : updN f i x i = x := by simp [updN]
theorem updN_other {α : Type} (f : Nat → α) {i k : Nat} (x : α) (h : k ≠ i) : updN f i x k = f k := by simp [updN, h]
def Least (E : Nat → Nat → Prop) (v r : Nat) : Prop := Path E v r ∧ Path E r v ∧ ∀ w, Path E v w → Path E w v → r ≤ w
def wh (f : Nat → Nat) : Nat := (List.range 32).countP (fun i => f i == 0)
theorem countP_turn {p q : Nat → Bool} {n : Nat} (hp : p n = true) (hq : q n = false) (ho : ∀ k, k ≠ n → p k = q k) : ∀ (l : List Nat), l.Nodup → n ∈ l → l.countP p = l.countP q + 1 := by
  have hsame : ∀ (l : List Nat), n ∉ l → l.countP p = l.countP q := by
    intro l
    induction l with
    | nil => intro _; rfl
    | cons a t ih =>
      intro hn
      simp only [List.mem_cons, not_or] at hn
      rw [List.countP_cons, List.countP_cons, ih hn.2, ho a (fun e => hn.1 e.symm)]
  intro l
  induction l with
  | nil => intro _ h; cases h
  | cons a t ih =>
    intro hnd hm
    rw [List.nodup_cons] at hnd
    rw [List.countP_cons, List.countP_cons]
    by_cases e : a = n
    · subst e
      rw [hsame t hnd.1, hp, hq]
      simp
    · have hmt : n ∈ t := by
        rcases List.mem_cons.1 hm with h | h
        · exact absurd h.symm e
        · exact h
      rw [ih hnd.2 hmt, ho a e]
      omega
theorem countP_le {p q : Nat → Bool} (h : ∀ k, p k = true → q k = true) (l : List Nat) : l.countP p ≤ l.countP q := by
  induction l with
  | nil => exact Nat.le_refl _
  | cons a t ih =>
    rw [List.countP_cons, List.countP_cons]
    cases hp : p a with
    | false => simp; omega
    | true => rw [h a hp]; simp; omega
theorem wh_updN {f : Nat → Nat} {n x : Nat} (hn : n < 32) (h0 : f n = 0) (hx : 0 < x) : wh f = wh (updN f n x) + 1 := by
  unfold wh
  refine countP_turn (n := n) (by simp [h0]) ?_ (fun k hk => by rw [updN_other _ _ hk]) _ List.nodup_range (List.mem_range.2 hn)
  rw [updN_same]
  simp
  omega
theorem wh_mono {f f' : Nat → Nat} (h : ∀ v, 0 < f v → 0 < f' v) : wh f' ≤ wh f := by
  unfold wh
  refine countP_le (fun k hk => ?_) _
  have hk' : f' k = 0 := by simpa using hk
  have : f k = 0 := by
    rcases Nat.eq_zero_or_pos (f k) with h0 | h0
    · exact h0
    · have := h k h0; omega
  simp [this]
structure Inv (E : Nat → Nat → Prop) (s : Srch) (G : List Nat) : Prop where
  lt : ∀ v, 0 < s.mark v → v < 32
  le : ∀ v, s.mark v ≤ s.next
  inj : ∀ u v, s.mark u = s.mark v → 0 < s.mark u → u = v
  cnt : s.next + wh s.mark ≤ 32
  sorted : s.stack.Pairwise (fun a b => s.mark a < s.mark b)
  pos : ∀ v ∈ s.stack, 0 < s.mark v
  gray : ∀ g ∈ G, g ∈ s.stack
  black : ∀ v w, 0 < s.mark v → v ∉ G → E v w → 0 < s.mark w
  done : ∀ v w, 0 < s.mark v → v ∉ s.stack → E v w → w ∉ s.stack
  ring : ∀ v, 0 < s.mark v → v ∉ s.stack → Least E v (s.ring v)
  reach : ∀ x ∈ G, ∀ y ∈ s.stack, s.mark x ≤ s.mark y → Path E x y
  back : ∀ y ∈ s.stack, ∃ x ∈ G, s.mark x ≤ s.mark y ∧ Path E y x
structure Ext (E : Nat → Nat → Prop) (s s' : Srch) (n : Nat) : Prop where
  mark_old : ∀ v, 0 < s.mark v → s'.mark v = s.mark v
  low_old : ∀ v, 0 < s.mark v → s'.low v = s.low v
  fresh : ∀ v, s.mark v = 0 → 0 < s'.mark v → s.next < s'.mark v ∧ Path E n v
  next : s.next ≤ s'.next
structure Post (E : Nat → Nat → Prop) (s s' : Srch) (n : Nat) (G : List Nat) : Prop where
  inv : Inv E s' G
  ext : Ext E s s' n
  mine : 0 < s'.mark n
  low_le : s'.low n ≤ s'.mark n
  low_or : s'.low n = s'.mark n ∨ ∃ z ∈ s.stack, s'.mark z = s'.low n ∧ Path E n z
  stack : ∃ new, s'.stack = s.stack ++ new ∧ ∀ y ∈ new, ∀ z ∈ s.stack, E y z → s'.low n ≤ s'.mark z
structure LI (E : Nat → Nat → Prop) (s : Srch) (G : List Nat) (n : Nat) (t : Srch) (ds : Nat → Prop) : Prop where
  was : Inv E s G
  white : s.mark n = 0
  inv : Inv E t (n :: G)
  ext : Ext E s t n
  nmark : t.mark n = s.next + 1
  low_le : t.low n ≤ t.mark n
  low_or : t.low n = t.mark n ∨ ∃ z ∈ s.stack, t.mark z = t.low n ∧ Path E n z
  stack : ∃ new, t.stack = s.stack ++ n :: new ∧ ∀ y ∈ new, ∀ z ∈ s.stack, E y z → t.low n ≤ t.mark z
  proc : ∀ d, ds d → 0 < t.mark d ∧ (d ∈ s.stack → t.low n ≤ t.mark d)
def startT (s : Srch) (n : Nat) : Srch := { mark := updN s.mark n (s.next + 1), low := updN s.low n (s.next + 1), ring := s.ring, stack := s.stack ++ [n], next := s.next + 1 }
theorem LI.start {s : Srch} {G : List Nat} {n : Nat} (h : Inv E s G) (hn : n < 32) (h0 : s.mark n = 0) (hG : ∀ g ∈ G, Path E g n) : LI E s G n (startT s n) (fun _ => False) := by
  have hns : n ∉ s.stack := fun hm => by have := h.pos n hm; omega
  have hmk : ∀ v, v ≠ n → (startT s n).mark v = s.mark v := fun v hv => updN_other _ _ hv
  have hmn : (startT s n).mark n = s.next + 1 := updN_same _ _ _
  have hne : ∀ v, 0 < s.mark v → v ≠ n := fun v hv e => by subst e; omega
  have hst : (startT s n).stack = s.stack ++ [n] := rfl
  refine ⟨h, h0, ⟨fun v hv => ?_, fun v => ?_, fun u v huv hu => ?_, ?_, ?_, fun v hv => ?_, fun g hg => ?_, fun v w hv hg he => ?_, fun v w hv hs he => ?_, fun v hv hs => ?_, fun x hx y hy hxy => ?_, fun y hy => ?_⟩, ⟨fun v hv => hmk v (hne v hv), fun v hv => updN_other _ _ (hne v hv), fun v hv hv' => ?_, Nat.le_succ _⟩, hmn, ?_, .inl ?_, ⟨[], rfl, by simp⟩, fun d hd => hd.elim⟩
  · by_cases e : v = n
    · subst e; exact hn
    · rw [hmk v e] at hv; exact h.lt v hv
  · show _ ≤ s.next + 1
    by_cases e : v = n
    · subst e; rw [hmn]; exact Nat.le_refl _
    · rw [hmk v e]; have := h.le v; omega
  · by_cases e1 : u = n
    · by_cases e2 : v = n
      · rw [e1, e2]
      · subst e1; rw [hmn, hmk v e2] at huv; have := h.le v; omega
    · by_cases e2 : v = n
      · subst e2; rw [hmn, hmk u e1] at huv; have := h.le u; omega
      · rw [hmk u e1, hmk v e2] at huv; rw [hmk u e1] at hu; exact h.inj u v huv hu
  · have := wh_updN (x := s.next + 1) hn h0 (by omega)
    have hc := h.cnt
    show s.next + 1 + wh (updN s.mark n (s.next + 1)) ≤ 32
    omega
  · rw [hst, List.pairwise_append]
    refine ⟨?_, List.pairwise_singleton _ _, fun a ha b hb => ?_⟩
    · refine List.Pairwise.imp_of_mem (fun {a b} ha hb hab => ?_) h.sorted
      rw [hmk a (fun e => hns (e ▸ ha)), hmk b (fun e => hns (e ▸ hb))]
      exact hab
    · rw [List.mem_singleton] at hb
      subst hb
      rw [hmn, hmk a (fun e => hns (e ▸ ha))]
      have := h.le a; omega
  · rw [hst, List.mem_append, List.mem_singleton] at hv
    rcases hv with hv | rfl
    · have := h.pos v hv
      rw [hmk v (hne v this)]; exact this
    · rw [hmn]; omega
  · rw [hst, List.mem_append, List.mem_singleton]
    rcases List.mem_cons.1 hg with rfl | hg
    · exact .inr rfl
    · exact .inl (h.gray g hg)
  · simp only [List.mem_cons, not_or] at hg
    rw [hmk v hg.1] at hv
    have := h.black v w hv hg.2 he
    rw [hmk w (hne w this)]; exact this
  · rw [hst, List.mem_append, List.mem_singleton, not_or] at hs
    rw [hmk v hs.2] at hv
    rw [hst, List.mem_append, List.mem_singleton, not_or]
    refine ⟨h.done v w hv hs.1 he, fun e => ?_⟩
    subst e
    have hvG : v ∉ G := fun hg => hs.1 (h.gray v hg)
    have := h.black v w hv hvG he
    omega
  · rw [hst, List.mem_append, List.mem_singleton, not_or] at hs
    rw [hmk v hs.2] at hv
    exact h.ring v hv hs.1
  · rw [hst, List.mem_append, List.mem_singleton] at hy
    rcases List.mem_cons.1 hx with rfl | hx2
    · rcases hy with hy | rfl
      · have hp := h.pos y hy
        rw [hmn, hmk y (hne y hp)] at hxy
        have := h.le y; omega
      · exact .refl _
    · rcases hy with hy | rfl
      · have hp := h.pos y hy
        have hpx := h.pos x (h.gray x hx2)
        rw [hmk x (hne x hpx), hmk y (hne y hp)] at hxy
        exact h.reach x hx2 y hy hxy
      · exact hG x hx2
  · rw [hst, List.mem_append, List.mem_singleton] at hy
    rcases hy with hy | rfl
    · obtain ⟨x, hx, hxy, hp⟩ := h.back y hy
      have hpx := h.pos x (h.gray x hx)
      refine ⟨x, List.mem_cons_of_mem _ hx, ?_, hp⟩
      rw [hmk x (hne x hpx), hmk y (hne y (h.pos y hy))]
      exact hxy
    · exact ⟨y, List.mem_cons_self, Nat.le_refl _, .refl _⟩
  · by_cases e : v = n
    · subst e; rw [hmn]; exact ⟨by omega, .refl _⟩
    · rw [hmk v e] at hv'; omega
  · rw [hmn]; show updN s.low n (s.next + 1) n ≤ _; rw [updN_same]; exact Nat.le_refl _
  · rw [hmn]; exact updN_same _ _ _
theorem Inv.low {s : Srch} {G : List Nat} (h : Inv E s G) (l : Nat → Nat) : Inv E { s with low := l } G :=
  ⟨h.lt, h.le, h.inj, h.cnt, h.sorted, h.pos, h.gray, h.black, h.done, h.ring, h.reach, h.back⟩
section
variable {s t : Srch} {G : List Nat} {n : Nat} {ds : Nat → Prop}
theorem LI.old (h : LI E s G n t ds) {z : Nat} (hz : z ∈ s.stack) : 0 < s.mark z ∧ t.mark z = s.mark z ∧ t.mark z < t.mark n := by
  have h1 := h.was.pos z hz
  have h2 := h.ext.mark_old z h1
  have h3 := h.was.le z
  refine ⟨h1, h2, ?_⟩
  rw [h2, h.nmark]
  omega
theorem LI.new (h : LI E s G n t ds) {new : List Nat} (hst : t.stack = s.stack ++ n :: new) {y : Nat} (hy : y ∈ n :: new) : t.mark n ≤ t.mark y := by
  have h1 := h.inv.sorted
  rw [hst, List.pairwise_append] at h1
  rcases List.mem_cons.1 hy with rfl | hy
  · exact Nat.le_refl _
  · exact Nat.le_of_lt ((List.pairwise_cons.1 h1.2.1).1 y hy)
theorem LI.visit {t' : Srch} {d : Nat} (h : LI E s G n t ds) (hd0 : t.mark d = 0) (he : E n d) (hp : Post E t t' d (n :: G)) :
    LI E s G n { t' with low := updN t'.low n (min (t'.low n) (t'.low d)) } (fun x => ds x ∨ x = d) := by
  have hn0 : 0 < t.mark n := by rw [h.nmark]; omega
  have hmn : t'.mark n = t.mark n := hp.ext.mark_old n hn0
  have hln : t'.low n = t.low n := hp.ext.low_old n hn0
  have hmd := hp.ext.fresh d hd0 hp.mine
  have hnn : t.mark n ≤ t.next := h.inv.le n
  obtain ⟨new, hst, hnew⟩ := h.stack
  obtain ⟨newd, hst', hnew'⟩ := hp.stack
  have hlow2 : (updN t'.low n (min (t'.low n) (t'.low d))) n = min (t.low n) (t'.low d) := by rw [updN_same, hln]
  refine ⟨h.was, h.white, hp.inv.low _, ⟨fun v hv => ?_, fun v hv => ?_, fun v hv hv' => ?_, Nat.le_trans h.ext.next hp.ext.next⟩, by rw [← h.nmark]; exact hmn, ?_, ?_, ⟨new ++ newd, ?_, fun y hy z hz hyz => ?_⟩, fun x hx => ?_⟩
  · have h1 := h.ext.mark_old v hv
    rw [hp.ext.mark_old v (by omega)]; exact h1
  · have h1 := h.ext.mark_old v hv
    have hvn : v ≠ n := fun e => by subst e; rw [h.white] at hv; omega
    show updN t'.low n _ v = _
    rw [updN_other _ _ hvn, hp.ext.low_old v (by omega)]
    exact h.ext.low_old v hv
  · rcases Nat.eq_zero_or_pos (t.mark v) with h0 | h0
    · have h1 := hp.ext.fresh v h0 hv'
      have h2 := h.ext.next
      exact ⟨by show s.next < t'.mark v; omega, Path.head he h1.2⟩
    · have h1 := hp.ext.mark_old v h0
      have h2 := h.ext.fresh v hv h0
      exact ⟨by show s.next < t'.mark v; rw [h1]; exact h2.1, h2.2⟩
  · show updN t'.low n _ n ≤ t'.mark n
    rw [hlow2, hmn]
    exact Nat.le_trans (Nat.min_le_left _ _) h.low_le
  · show updN t'.low n _ n = t'.mark n ∨ ∃ z ∈ s.stack, t'.mark z = updN t'.low n _ n ∧ Path E n z
    rw [hlow2, hmn]
    by_cases hle : t.low n ≤ t'.low d
    · rw [Nat.min_eq_left hle]
      rcases h.low_or with h1 | ⟨z, hz, h1, h2⟩
      · exact .inl h1
      · have h3 := h.old hz
        exact .inr ⟨z, hz, by rw [hp.ext.mark_old z (by omega)]; exact h1, h2⟩
    · rw [Nat.min_eq_right (by omega)]
      have hll := h.low_le
      rcases hp.low_or with h1 | ⟨z, hz, h1, h2⟩
      · omega
      · refine .inr ⟨z, ?_, h1, Path.head he h2⟩
        have hz' := hz
        rw [hst] at hz'
        rcases List.mem_append.1 hz' with h3 | h3
        · exact h3
        · have h4 := h.new hst h3
          have h5 := hp.ext.mark_old z (h.inv.pos z hz)
          omega
  · show t'.stack = _
    rw [hst', hst]
    simp
  · show updN t'.low n _ n ≤ t'.mark z
    rw [hlow2]
    have h3 := h.old hz
    have h4 := hp.ext.mark_old z (by omega)
    rcases List.mem_append.1 hy with hy | hy
    · have := hnew y hy z hz hyz
      rw [h4]
      exact Nat.le_trans (Nat.min_le_left _ _) this
    · have := hnew' y hy z (by rw [hst]; exact List.mem_append_left _ hz) hyz
      exact Nat.le_trans (Nat.min_le_right _ _) this
  · show 0 < t'.mark x ∧ (x ∈ s.stack → updN t'.low n _ n ≤ t'.mark x)
    rw [hlow2]
    rcases hx with hx | rfl
    · have h1 := h.proc x hx
      have h2 := hp.ext.mark_old x h1.1
      rw [h2]
      exact ⟨h1.1, fun hs => Nat.le_trans (Nat.min_le_left _ _) (h1.2 hs)⟩
    · exact ⟨hp.mine, fun hs => by have := h.old hs; omega⟩
theorem LI.on {d : Nat} (h : LI E s G n t ds) (hd : d ∈ t.stack) (he : E n d) :
    LI E s G n { t with low := updN t.low n (min (t.low n) (t.mark d)) } (fun x => ds x ∨ x = d) := by
  obtain ⟨new, hst, hnew⟩ := h.stack
  have hlow2 : (updN t.low n (min (t.low n) (t.mark d))) n = min (t.low n) (t.mark d) := updN_same _ _ _
  refine ⟨h.was, h.white, h.inv.low _, ⟨h.ext.mark_old, fun v hv => ?_, h.ext.fresh, h.ext.next⟩, h.nmark, ?_, ?_, ⟨new, hst, fun y hy z hz hyz => ?_⟩, fun x hx => ?_⟩
  · have hvn : v ≠ n := fun e => by subst e; rw [h.white] at hv; omega
    show updN t.low n _ v = _
    rw [updN_other _ _ hvn]
    exact h.ext.low_old v hv
  · show updN t.low n _ n ≤ t.mark n
    rw [hlow2]
    exact Nat.le_trans (Nat.min_le_left _ _) h.low_le
  · show updN t.low n _ n = t.mark n ∨ ∃ z ∈ s.stack, t.mark z = updN t.low n _ n ∧ Path E n z
    rw [hlow2]
    by_cases hle : t.low n ≤ t.mark d
    · rw [Nat.min_eq_left hle]; exact h.low_or
    · rw [Nat.min_eq_right (by omega)]
      have hll := h.low_le
      refine .inr ⟨d, ?_, rfl, Path.one he⟩
      have hd' := hd
      rw [hst] at hd'
      rcases List.mem_append.1 hd' with h3 | h3
      · exact h3
      · have h4 := h.new hst h3
        omega
  · show updN t.low n _ n ≤ t.mark z
    rw [hlow2]
    exact Nat.le_trans (Nat.min_le_left _ _) (hnew y hy z hz hyz)
  · show 0 < t.mark x ∧ (x ∈ s.stack → updN t.low n _ n ≤ t.mark x)
    rw [hlow2]
    rcases hx with hx | rfl
    · have h1 := h.proc x hx
      exact ⟨h1.1, fun hs => Nat.le_trans (Nat.min_le_left _ _) (h1.2 hs)⟩
    · exact ⟨h.inv.pos x hd, fun _ => Nat.min_le_right _ _⟩
theorem LI.skip {d : Nat} (h : LI E s G n t ds) (hm : 0 < t.mark d) (hd : d ∉ t.stack) : LI E s G n t (fun x => ds x ∨ x = d) := by
  obtain ⟨new, hst, hnew⟩ := h.stack
  refine ⟨h.was, h.white, h.inv, h.ext, h.nmark, h.low_le, h.low_or, h.stack, fun x hx => ?_⟩
  rcases hx with hx | rfl
  · exact h.proc x hx
  · exact ⟨hm, fun hs => absurd (by rw [hst]; exact List.mem_append_left _ hs) hd⟩
theorem LI.keep (h : LI E s G n t ds) (hall : ∀ d, E n d → ds d) (hlow : t.low n ≠ t.mark n) : Post E s t n G := by
  obtain ⟨new, hst, hnew⟩ := h.stack
  have hlt : t.low n < t.mark n := Nat.lt_of_le_of_ne h.low_le hlow
  obtain ⟨z, hz, hm, hp⟩ : ∃ z ∈ s.stack, t.mark z = t.low n ∧ Path E n z := by
    rcases h.low_or with h1 | h1
    · exact absurd h1 hlow
    · exact h1
  refine ⟨⟨h.inv.lt, h.inv.le, h.inv.inj, h.inv.cnt, h.inv.sorted, h.inv.pos, fun g hg => h.inv.gray g (List.mem_cons_of_mem _ hg), fun v w hv hg hvw => ?_, h.inv.done, h.inv.ring, fun x hx => h.inv.reach x (List.mem_cons_of_mem _ hx), fun y hy => ?_⟩, h.ext, by rw [h.nmark]; omega, h.low_le, h.low_or, ⟨n :: new, hst, fun y hy z hz hyz => ?_⟩⟩
  · by_cases e : v = n
    · subst e; exact (h.proc w (hall w hvw)).1
    · exact h.inv.black v w hv (by simp only [List.mem_cons, not_or]; exact ⟨e, hg⟩) hvw
  · obtain ⟨x, hx, hxy, p⟩ := h.inv.back y hy
    rcases List.mem_cons.1 hx with rfl | hx
    · obtain ⟨x', hx', hxz, p'⟩ := h.was.back z hz
      have h1 := h.old hz
      have h2 := h.old (h.was.gray x' hx')
      exact ⟨x', hx', by omega, (p.trans hp).trans p'⟩
    · exact ⟨x, hx, hxy, p⟩
  · rcases List.mem_cons.1 hy with rfl | hy
    · exact (h.proc z (hall z hyz)).2 hz
    · exact hnew y hy z hz hyz
theorem LI.pop (h : LI E s G n t ds) (hall : ∀ d, E n d → ds d) (hlow : t.low n = t.mark n) {new : List Nat} (hst : t.stack = s.stack ++ n :: new) {r : Nat} {ring' : Nat → Nat} (hr1 : ∀ v ∈ n :: new, ring' v = r)
    (hr2 : ∀ v, v ∉ n :: new → ring' v = t.ring v) (hmem : r ∈ n :: new) (hmin : ∀ v ∈ n :: new, r ≤ v) : Post E s { t with ring := ring', stack := s.stack } n G := by
  obtain ⟨new2, hst2, hnew⟩ := h.stack
  have e2 : new2 = new := by
    rw [hst] at hst2
    have := List.append_cancel_left hst2
    simp only [List.cons.injEq, true_and] at this
    exact this.symm
  subst e2
  have hC : ∀ y ∈ n :: new2, y ∈ t.stack := fun y hy => by rw [hst]; exact List.mem_append_right _ hy
  have hCn : ∀ y ∈ n :: new2, t.mark n ≤ t.mark y := fun y hy => h.new hst hy
  have hS : ∀ y ∈ s.stack, y ∈ t.stack := fun y hy => by rw [hst]; exact List.mem_append_left _ hy
  have hdis : ∀ y ∈ n :: new2, y ∉ s.stack := fun y hy hs => by have := hCn y hy; have := h.old hs; omega
  have hfrom : ∀ y ∈ n :: new2, Path E n y := fun y hy => h.inv.reach n List.mem_cons_self y (hC y hy) (hCn y hy)
  have hto : ∀ y ∈ n :: new2, Path E y n := fun y hy => by
    obtain ⟨x, hx, hxy, p⟩ := h.inv.back y (hC y hy)
    refine p.trans (h.inv.reach x hx n (hC n List.mem_cons_self) ?_)
    rcases List.mem_cons.1 hx with rfl | hx
    · exact Nat.le_refl _
    · have := h.old (h.was.gray x hx); omega
  have hout : ∀ y ∈ n :: new2, ∀ w, E y w → 0 < t.mark w ∧ (w ∈ n :: new2 ∨ w ∉ t.stack) := by
    intro y hy w hyw
    have hw0 : 0 < t.mark w := by
      rcases List.mem_cons.1 hy with rfl | hy'
      · exact (h.proc w (hall w hyw)).1
      · refine h.inv.black y w (h.inv.pos y (hC y hy)) ?_ hyw
        simp only [List.mem_cons, not_or]
        refine ⟨fun e => ?_, fun hg => hdis y hy (h.was.gray y hg)⟩
        subst e
        have h1 := h.inv.sorted
        rw [hst, List.pairwise_append] at h1
        exact absurd ((List.pairwise_cons.1 h1.2.1).1 y hy') (Nat.lt_irrefl _)
    refine ⟨hw0, ?_⟩
    by_cases hws : w ∈ t.stack
    · left
      have hws' := hws
      rw [hst] at hws'
      rcases List.mem_append.1 hws' with h3 | h3
      · have h4 := h.old h3
        have h5 : t.low n ≤ t.mark w := by
          rcases List.mem_cons.1 hy with rfl | hy'
          · exact (h.proc w (hall w hyw)).2 h3
          · exact hnew y hy' w h3 hyw
        omega
      · exact h3
    · exact .inr hws
  have hdone : ∀ a b, (0 < t.mark a ∧ a ∉ t.stack) → E a b → (0 < t.mark b ∧ b ∉ t.stack) := fun a b ⟨h1, h2⟩ hab =>
    ⟨h.inv.black a b h1 (fun hg => h2 (h.inv.gray a hg)) hab, h.inv.done a b h1 h2 hab⟩
  have hclosed : ∀ a b, (0 < t.mark a ∧ (a ∈ n :: new2 ∨ a ∉ t.stack)) → E a b → (0 < t.mark b ∧ (b ∈ n :: new2 ∨ b ∉ t.stack)) := by
    rintro a b ⟨h1, h2 | h2⟩ hab
    · exact hout a h2 b hab
    · have := hdone a b ⟨h1, h2⟩ hab
      exact ⟨this.1, .inr this.2⟩
  have hnot : ∀ v, v ∉ s.stack → v ∉ n :: new2 → v ∉ t.stack := fun v h1 h2 h3 => by
    rw [hst] at h3
    rcases List.mem_append.1 h3 with h3 | h3
    · exact h1 h3
    · exact h2 h3
  have hsorted : s.stack.Pairwise (fun a b => t.mark a < t.mark b) := by
    have h1 := h.inv.sorted
    rw [hst, List.pairwise_append] at h1
    exact h1.1
  refine ⟨⟨h.inv.lt, h.inv.le, h.inv.inj, h.inv.cnt, hsorted, fun v hv => h.inv.pos v (hS v hv), h.was.gray, fun v w hv hg hvw => ?_, fun v w hv hs hvw => ?_, fun v hv hs => ?_, fun x hx y hy => h.inv.reach x (List.mem_cons_of_mem _ hx) y (hS y hy), fun y hy => ?_⟩,
    ⟨h.ext.mark_old, h.ext.low_old, h.ext.fresh, h.ext.next⟩, by show 0 < t.mark n; rw [h.nmark]; omega, h.low_le, .inl hlow, ⟨[], by simp, by simp⟩⟩
  · by_cases e : v = n
    · subst e; exact (h.proc w (hall w hvw)).1
    · exact h.inv.black v w hv (by simp only [List.mem_cons, not_or]; exact ⟨e, hg⟩) hvw
  · by_cases hvC : v ∈ n :: new2
    · rcases (hout v hvC w hvw).2 with h1 | h1
      · exact hdis w h1
      · exact fun h2 => h1 (hS w h2)
    · have := h.inv.done v w hv (hnot v hs hvC) hvw
      exact fun h2 => this (hS w h2)
  · by_cases hvC : v ∈ n :: new2
    · show Least E v (ring' v)
      rw [hr1 v hvC]
      refine ⟨(hto v hvC).trans (hfrom r hmem), (hto r hmem).trans (hfrom v hvC), fun w hvw hwv => hmin w ?_⟩
      have h1 := Path.closed (S := fun a => 0 < t.mark a ∧ (a ∈ n :: new2 ∨ a ∉ t.stack)) hclosed hvw ⟨hv, .inl hvC⟩
      rcases h1.2 with h2 | h2
      · exact h2
      · have h3 := Path.closed (S := fun a => 0 < t.mark a ∧ a ∉ t.stack) hdone hwv ⟨h1.1, h2⟩
        exact absurd (hC v hvC) h3.2
    · show Least E v (ring' v)
      rw [hr2 v hvC]
      exact h.inv.ring v hv (hnot v hs hvC)
  · obtain ⟨x, hx, hxy, p⟩ := h.was.back y hy
    have h1 := h.old hy
    have h2 := h.old (h.was.gray x hx)
    exact ⟨x, hx, by show t.mark x ≤ t.mark y; omega, p⟩
end
theorem Inv.empty {s : Srch} (h1 : ∀ v, s.mark v = 0) (h2 : s.stack = []) (h3 : s.next = 0) : Inv E s [] := by
  refine ⟨fun v hv => ?_, fun v => ?_, fun u v _ hu => ?_, ?_, (by rw [h2]; exact .nil), fun v hv => ?_, fun g hg => (by cases hg), fun v w hv => ?_, fun v w hv => ?_, fun v hv => ?_, fun x hx => (by cases hx), fun y hy => ?_⟩
  · rw [h1] at hv; omega
  · rw [h1]; omega
  · rw [h1] at hu; omega
  · rw [h3]
    have : wh s.mark ≤ 32 := by
      have := List.countP_le_length (p := fun i => s.mark i == 0) (l := List.range 32)
      rw [List.length_range] at this
      exact this
    omega
  · rw [h2] at hv; cases hv
  · rw [h1] at hv; omega
  · rw [h1] at hv; omega
  · rw [h1] at hv; omega
  · rw [h2] at hy; cases hy
theorem Post.final {s s' : Srch} {n : Nat} (h : Post E s s' n []) (h1 : ∀ v, s.mark v = 0) : (∀ v, 0 < s'.mark v ↔ Path E n v) ∧ ∀ v, Path E n v → Least E v (s'.ring v) := by
  have hst : ∀ y, y ∉ s'.stack := fun y hy => by obtain ⟨x, hx, _⟩ := h.inv.back y hy; cases hx
  have hp : ∀ v, Path E n v → 0 < s'.mark v := fun v hv => Path.closed (S := fun a => 0 < s'.mark a) (fun a b ha hab => h.inv.black a b ha (by simp) hab) hv h.mine
  exact ⟨fun v => ⟨fun hv => (h.ext.fresh v (h1 v) hv).2, hp v⟩, fun v hv => h.inv.ring v (hp v hv) (hst v)⟩
end
end Go.Proofs.Ytopgdemmdcipcaa
namespace Go.Proofs.Ytopgdemmdcipcaa
set_option linter.unusedVariables false
theorem nodup_len : ∀ (n : Nat) (l : List Nat), l.Nodup → (∀ x ∈ l, x < n) → l.length ≤ n
  | 0, l, _, h => by
    cases l with
    | nil => simp
    | cons a t => exact absurd (h a List.mem_cons_self) (Nat.not_lt_zero _)
  | n + 1, l, hn, h => by
    have h1 := nodup_len n (l.filter (· != n)) (hn.filter _) (fun x hx => by
      rw [List.mem_filter] at hx
      have := h x hx.1
      have h2 : x ≠ n := by simpa using hx.2
      omega)
    have h2 : l.length ≤ (l.filter (· != n)).length + 1 := by
      clear h1 h
      induction l with
      | nil => simp
      | cons a t ih =>
        rw [List.nodup_cons] at hn
        have ih := ih hn.2
        by_cases e : a = n
        · subst e
          have : t.filter (· != a) = t := List.filter_eq_self.2 fun x hx => by simp; rintro rfl; exact hn.1 hx
          simp [this]
        · rw [List.filter_cons_of_pos (by simpa using e)]
          simp only [List.length_cons]
          omega
    omega
theorem countP_lt {p q : Nat → Bool} (h : ∀ k, q k = true → p k = true) {x : Nat} (hp : p x = true) (hq : q x = false) : ∀ (l : List Nat), x ∈ l → l.countP q < l.countP p := by
  intro l
  induction l with
  | nil => intro h; cases h
  | cons a t ih =>
    intro hm
    rw [List.countP_cons, List.countP_cons]
    have hle := countP_le h t
    rcases List.mem_cons.1 hm with rfl | hm
    · rw [hp, hq]; simp; omega
    · have := ih hm
      cases hqa : q a with
      | false => simp; omega
      | true => rw [h a hqa]; simp; omega
def candO (P : Nat → Nat → Bool) (n : Nat) (out : List Nat) (m : Nat) : Bool := P n m && (!out.contains m && (List.range 32).all fun d => !P m d || (P d m || out.contains d))
def nextO (P : Nat → Nat → Bool) (n : Nat) (out : List Nat) : Option Nat := (List.range 32).find? (candO P n out)
def ringO (P : Nat → Nat → Bool) (c : Nat) : List Nat := (List.range 32).filter fun m => P c m && P m c
def orderF (P : Nat → Nat → Bool) (n : Nat) : Nat → List Nat → List Nat
  | 0, out => out
  | k + 1, out => match nextO P n out with
    | none => out
    | some c => orderF P n k (out ++ ringO P c)
def orderS (P : Nat → Nat → Bool) (n : Nat) : List Nat := orderF P n 32 []
structure Pre (P : Nat → Nat → Bool) : Prop where
  refl : ∀ a, a < 32 → P a a = true
  trans : ∀ a b c, P a b = true → P b c = true → P a c = true
  lt : ∀ a b, a < 32 → P a b = true → b < 32
structure OKO (P : Nat → Nat → Bool) (n : Nat) (out : List Nat) : Prop where
  nodup : out.Nodup
  lt : ∀ m ∈ out, m < 32
  sub : ∀ m ∈ out, P n m = true
  dc : ∀ m ∈ out, ∀ d, P m d = true → d ∈ out
section
variable {P : Nat → Nat → Bool} {n : Nat} {out : List Nat}
theorem candO_iff {m : Nat} : candO P n out m = true ↔ P n m = true ∧ m ∉ out ∧ ∀ d, d < 32 → P m d = true → P d m = true ∨ d ∈ out := by
  simp only [candO, Bool.and_eq_true, Bool.not_eq_true', List.all_eq_true, List.mem_range, Bool.or_eq_true, List.contains_eq_mem, decide_eq_true_eq, decide_eq_false_iff_not]
  constructor
  · rintro ⟨h1, h2, h3⟩
    refine ⟨h1, h2, fun d hd hm => ?_⟩
    rcases h3 d hd with h | h
    · rw [hm] at h; cases h
    · exact h
  · rintro ⟨h1, h2, h3⟩
    refine ⟨h1, h2, fun d hd => ?_⟩
    cases hm : P m d with
    | false => exact .inl rfl
    | true => exact .inr (h3 d hd hm)
theorem nextO_some {c : Nat} (h : nextO P n out = some c) : c < 32 ∧ candO P n out c = true ∧ ∀ m, m < c → candO P n out m = false := by
  unfold nextO at h
  have h1 := List.find?_some h
  have h2 := List.mem_of_find?_eq_some h
  refine ⟨List.mem_range.1 h2, h1, fun m hm => ?_⟩
  rw [List.find?_range_eq_some] at h
  have := h.2.2 m hm
  simpa using this
theorem nextO_of {c : Nat} (hc : c < 32) (h1 : candO P n out c = true) (h2 : ∀ m, m < c → candO P n out m = false) : nextO P n out = some c := by
  unfold nextO
  rw [List.find?_range_eq_some]
  exact ⟨h1, List.mem_range.2 hc, fun m hm => by simp [h2 m hm]⟩
theorem nextO_none : nextO P n out = none ↔ ∀ m, m < 32 → candO P n out m = false := by
  unfold nextO
  rw [List.find?_eq_none]
  simp
theorem mem_ringO {c m : Nat} : m ∈ ringO P c ↔ m < 32 ∧ P c m = true ∧ P m c = true := by
  simp [ringO, List.mem_filter, List.mem_range]
theorem OKO.nil : OKO P n [] := ⟨List.nodup_nil, by simp, by simp, by simp⟩
theorem OKO.step (hP : Pre P) (hn : n < 32) (h : OKO P n out) {c : Nat} (hc : nextO P n out = some c) : OKO P n (out ++ ringO P c) := by
  obtain ⟨hc32, hcand, _⟩ := nextO_some hc
  rw [candO_iff] at hcand
  obtain ⟨h1, h2, h3⟩ := hcand
  refine ⟨?_, fun m hm => ?_, fun m hm => ?_, fun m hm d hd => ?_⟩
  · rw [List.nodup_append]
    refine ⟨h.nodup, List.nodup_range.filter _, fun a ha b hb => ?_⟩
    rintro rfl
    exact h2 (h.dc a ha c (mem_ringO.1 hb).2.2)
  · rcases List.mem_append.1 hm with hm | hm
    · exact h.lt m hm
    · exact (mem_ringO.1 hm).1
  · rcases List.mem_append.1 hm with hm | hm
    · exact h.sub m hm
    · exact hP.trans _ _ _ h1 (mem_ringO.1 hm).2.1
  · rcases List.mem_append.1 hm with hm | hm
    · exact List.mem_append_left _ (h.dc m hm d hd)
    · obtain ⟨hm32, hcm, hmc⟩ := mem_ringO.1 hm
      have hcd := hP.trans _ _ _ hcm hd
      have hd32 := hP.lt m d hm32 hd
      rcases h3 d hd32 hcd with h4 | h4
      · exact List.mem_append_right _ (mem_ringO.2 ⟨hd32, hcd, h4⟩)
      · exact List.mem_append_left _ h4
theorem ringO_self (hP : Pre P) {c : Nat} (hc : c < 32) : c ∈ ringO P c := mem_ringO.2 ⟨hc, hP.refl c hc, hP.refl c hc⟩
theorem OKO.len (h : OKO P n out) : out.length ≤ 32 := nodup_len 32 out h.nodup h.lt
theorem OKO.full (h : OKO P n out) (hl : 32 ≤ out.length) : nextO P n out = none := by
  rw [nextO_none]
  intro m hm
  cases hc : candO P n out m with
  | false => rfl
  | true =>
    rw [candO_iff] at hc
    have := nodup_len 32 (m :: out) (List.nodup_cons.2 ⟨hc.2.1, h.nodup⟩) (fun x hx => by
      rcases List.mem_cons.1 hx with rfl | hx
      · exact hm
      · exact h.lt x hx)
    simp only [List.length_cons] at this
    omega
theorem OKO.more (hP : Pre P) (hn : n < 32) (h : OKO P n out) : ∀ (k m : Nat), (List.range 32).countP (P m) ≤ k → P n m = true → m ∉ out → nextO P n out ≠ none
  | k, m, hk, hm, hmo => by
    intro h0
    have hm32 := hP.lt n m hn hm
    have hno := nextO_none.1 h0 m hm32
    by_cases hall : ∀ d, d < 32 → P m d = true → P d m = true ∨ d ∈ out
    · rw [candO_iff.2 ⟨hm, hmo, hall⟩] at hno
      cases hno
    · have hex : ∃ d, d < 32 ∧ P m d = true ∧ P d m = false ∧ d ∉ out := by
        refine Classical.byContradiction fun hne => hall fun d hd hmd => ?_
        by_cases h1 : d ∈ out
        · exact .inr h1
        · cases h2 : P d m with
          | true => exact .inl rfl
          | false => exact absurd ⟨d, hd, hmd, h2, h1⟩ hne
      obtain ⟨d, hd, hmd, hdm, hdo⟩ := hex
      have hlt : (List.range 32).countP (P d) < (List.range 32).countP (P m) :=
        countP_lt (p := P m) (q := P d) (fun x hx => hP.trans _ _ x hmd hx) (hP.refl m hm32) hdm _ (List.mem_range.2 hm32)
      cases k with
      | zero => omega
      | succ k => exact OKO.more hP hn h k d (by omega) (hP.trans _ _ _ hm hmd) hdo h0
theorem orderF_end (hP : Pre P) (hn : n < 32) : ∀ (k : Nat) (out : List Nat), OKO P n out → 32 ≤ k + out.length → OKO P n (orderF P n k out) ∧ nextO P n (orderF P n k out) = none
  | 0, out, h, hk => ⟨h, h.full (by omega)⟩
  | k + 1, out, h, hk => by
    unfold orderF
    cases hc : nextO P n out with
    | none => exact ⟨h, hc⟩
    | some c =>
      refine orderF_end hP hn k _ (h.step hP hn hc) ?_
      have := List.length_pos_of_mem (ringO_self hP (nextO_some hc).1)
      rw [List.length_append]
      omega
theorem orderS_mem (hP : Pre P) (hn : n < 32) (m : Nat) : m ∈ orderS P n ↔ P n m = true := by
  obtain ⟨h1, h2⟩ := orderF_end hP hn 32 [] OKO.nil (by simp)
  refine ⟨h1.sub m, fun hm => ?_⟩
  refine Classical.byContradiction fun hno => ?_
  exact h1.more hP hn _ m (Nat.le_refl _) hm hno h2
theorem orderS_ok (hP : Pre P) (hn : n < 32) : OKO P n (orderS P n) := (orderF_end hP hn 32 [] OKO.nil (by simp)).1
end
end Go.Proofs.Ytopgdemmdcipcaa
namespace Go.Proofs.Ytopgdemmdcipcaa
open Go.RowKit
open Rep (rep)
section
variable {α : Type} {n : Nat} {v : Vector α n} {k : Nat}
theorem idxV_ok (hk : k < n) : idxV v (k : Int) = some v[k] := by
  unfold idxV
  rw [if_pos (Int.natCast_nonneg k)]
  simp [hk]
theorem setV_ok {x : α} (hk : k < n) : setV v (k : Int) x = some (v.set k x) := by
  unfold setV
  rw [if_pos ⟨Int.natCast_nonneg k, by omega⟩]
  congr 1
  refine Vector.ext fun j hj => ?_
  simp [Vector.getElem_setIfInBounds, Vector.getElem_set]
end
def bat (v : Vector Bool 32) (k : Nat) : Bool := v[k]?.getD false
theorem bat_lt {v : Vector Bool 32} {k : Nat} (hk : k < 32) : v[k] = bat v k := by simp [bat, hk]
theorem idxB {v : Vector Bool 32} {k : Nat} (hk : k < 32) : idxV v (k : Int) = some (bat v k) := by rw [idxV_ok hk, bat_lt hk]
theorem bat_set {v : Vector Bool 32} {k j : Nat} {x : Bool} (hk : k < 32) : bat (v.set k x) j = if k = j then x else bat v j := by
  unfold bat
  by_cases hj : j < 32
  · simp only [Vector.getElem?_set]
    by_cases e : k = j
    · subst e; simp
    · simp [e]
  · have hkj : k ≠ j := by omega
    simp [hj, hkj]
theorem bat_ext {v u : Vector Bool 32} (h : ∀ k, k < 32 → bat v k = bat u k) : v = u := by
  refine Vector.ext fun k hk => ?_
  rw [bat_lt hk, bat_lt hk]
  exact h k hk
theorem bat_zero (k : Nat) : bat (Zr.zd : Vector Bool 32) k = false := by
  show bat (Vector.replicate 32 false) k = false
  unfold bat
  by_cases hk : k < 32 <;> simp [hk]
def cz (v : Vector Bool 32) : Nat := (List.range 32).countP fun k => !bat v k
theorem cz_set {v : Vector Bool 32} {k : Nat} (hk : k < 32) (h : bat v k = false) : cz v = cz (v.set k true) + 1 := by
  unfold cz
  refine countP_turn (n := k) (by simp [h]) (by rw [bat_set hk, if_pos rfl]; rfl) (fun j hj => ?_) _ List.nodup_range (List.mem_range.2 hk)
  rw [bat_set hk, if_neg (fun e => hj e.symm)]
theorem cz_le (v : Vector Bool 32) : cz v ≤ 32 := by
  unfold cz
  have := List.countP_le_length (p := fun k => !bat v k) (l := List.range 32)
  rw [List.length_range] at this
  exact this
theorem cz_mono {v u : Vector Bool 32} (h : ∀ k, bat v k = true → bat u k = true) : cz u ≤ cz v := by
  unfold cz
  refine countP_le (fun k hk => ?_) _
  cases hv : bat v k with
  | false => rfl
  | true => rw [h k hv] at hk; cases hk
def depsAt (g : GGraph) (a : Nat) : List Int := if h : a < 32 then g.deps[a] else []
theorem idxD {g : GGraph} {a : Nat} (h : a < 32) : idxV g.deps (a : Int) = some (depsAt g a) := by rw [idxV_ok h]; simp [depsAt, h]
def Edge (g : GGraph) (a b : Nat) : Prop := a < 32 ∧ bat g.known a = true ∧ (b : Int) ∈ depsAt g a ∧ b < 32
def Small (g : GGraph) (N : Nat) : Prop := ∀ a, (depsAt g a).length < N ∧ (depsAt g a).length ≤ 17592186043904
theorem path_lt {g : GGraph} {a b : Nat} (h : Path (Edge g) a b) (ha : a < 32) : b < 32 := by
  cases h with
  | refl => exact ha
  | tail _ e => exact e.2.2.2
theorem len_bytes {l : List Int} (h : l.length ≤ 100) : (l.length + 1) * Rep.bytes Int ≤ 140737488351232 := by
  have : Rep.bytes Int = 8 := rfl
  rw [this]; omega
theorem wrs (k : Nat) (h : k ≤ 17592186043904) : IntKind.wrap .i64 ((k : Int) + 1) = ((k + 1 : Nat) : Int) := by rw [wr64 (by omega) (by omega)]; omega
theorem int_cases (x : Int) : (∃ b : Nat, b < 32 ∧ x = b) ∨ ¬ (0 ≤ x ∧ x < 32) := by
  by_cases h : 0 ≤ x ∧ x < 32
  · exact .inl ⟨x.toNat, by omega, by omega⟩
  · exact .inr h
theorem drop_mem {α : Type} {l : List α} {k : Nat} (hk : k < l.length) : l.drop k = l[k] :: l.drop (k + 1) := List.drop_eq_getElem_cons hk
structure Fed (ds : List Int) (d : Vector Bool 32) (l : List Int) (d' : Vector Bool 32) (l' : List Int) : Prop where
  keep : ∀ k, bat d k = true → bat d' k = true
  all : ∀ b : Nat, b < 32 → (b : Int) ∈ ds → bat d' b = true
  only : ∀ k, bat d' k = true → bat d k = true ∨ ((k : Int) ∈ ds ∧ (k : Int) ∈ l')
  old : ∀ x, x ∈ l → x ∈ l'
  new : ∀ x, x ∈ l' → x ∈ l ∨ ∃ b : Nat, b < 32 ∧ x = b ∧ (b : Int) ∈ ds ∧ bat d' b = true
  cnt : l'.length + cz d' = l.length + cz d
theorem Fed.refl {d : Vector Bool 32} {l : List Int} : Fed [] d l d l := ⟨fun _ h => h, fun _ _ h => by simp at h, fun _ h => .inl h, fun _ h => h, fun _ h => .inl h, rfl⟩
theorem Fed.skip {x : Int} {ds : List Int} {d d' : Vector Bool 32} {l l' : List Int} (hx : ∀ b : Nat, b < 32 → x = b → bat d b = true) (h : Fed ds d l d' l') : Fed (x :: ds) d l d' l' := by
  refine ⟨h.keep, fun b hb hm => ?_, fun k hk => ?_, h.old, fun y hy => ?_, h.cnt⟩
  · rcases List.mem_cons.1 hm with e | hm
    · exact h.keep b (hx b hb e.symm)
    · exact h.all b hb hm
  · rcases h.only k hk with h1 | h1
    · exact .inl h1
    · exact .inr ⟨List.mem_cons_of_mem _ h1.1, h1.2⟩
  · rcases h.new y hy with h1 | ⟨b, h1, h2, h3, h4⟩
    · exact .inl h1
    · exact .inr ⟨b, h1, h2, List.mem_cons_of_mem _ h3, h4⟩
theorem Fed.push {a : Nat} {ds : List Int} {d d' : Vector Bool 32} {l l' : List Int} (ha : a < 32) (hd : bat d a = false) (h : Fed ds (d.set a true) (l ++ [(a : Int)]) d' l') : Fed ((a : Int) :: ds) d l d' l' := by
  have hset : bat (d.set a true) a = true := by rw [bat_set ha, if_pos rfl]
  refine ⟨fun k hk => h.keep k (by rw [bat_set ha]; split <;> simp [hk]), fun b hb hm => ?_, fun k hk => ?_, fun y hy => h.old y (List.mem_append_left _ hy), fun y hy => ?_, ?_⟩
  · rcases List.mem_cons.1 hm with e | hm
    · have : b = a := by omega
      subst this
      exact h.keep b hset
    · exact h.all b hb hm
  · rcases h.only k hk with h1 | h1
    · rw [bat_set ha] at h1
      by_cases e : a = k
      · subst e
        exact .inr ⟨List.mem_cons_self, h.old _ (by simp)⟩
      · rw [if_neg e] at h1
        exact .inl h1
    · exact .inr ⟨List.mem_cons_of_mem _ h1.1, h1.2⟩
  · rcases h.new y hy with h1 | ⟨b, h1, h2, h3, h4⟩
    · rcases List.mem_append.1 h1 with h1 | h1
      · exact .inl h1
      · rw [List.mem_singleton] at h1
        exact .inr ⟨a, ha, h1, List.mem_cons_self, h.keep a hset⟩
    · exact .inr ⟨b, h1, h2, List.mem_cons_of_mem _ h3, h4⟩
  · have h1 := h.cnt
    have h2 := cz_set ha hd
    rw [List.length_append] at h1
    simp only [List.length_cons, List.length_nil] at h1
    omega
theorem reach_l2_eq {rec : Vector Bool 32 → List Int → Option (Vector Bool 32)} {ds : List Int} (hds : ds.length ≤ 17592186043904) : ∀ (n m k : Nat) (d : Vector Bool 32) (l : List Int), ds.length = k + m → m < n → l.length + cz d ≤ 100 →
    ∃ d' l', reach_l2 rec ds n d l k = rec d' l' ∧ Fed (ds.drop k) d l d' l'
  | 0, m, k, d, l, _, h, _ => absurd h (by omega)
  | n + 1, 0, k, d, l, hk, _, _ => ⟨d, l, by rw [reach_l2, bif_f (dec_f (by omega))], by rw [List.drop_of_length_le (by omega)]; exact Fed.refl⟩
  | n + 1, m + 1, k, d, l, hk, hn, hl => by
    have hlt : k < ds.length := by omega
    have ih := fun d l h => reach_l2_eq (rec := rec) hds n m (k + 1) d l (by omega) (by omega) h
    rw [reach_l2, bif_t (dec_t (by omega)), idx_nat, List.getElem?_eq_getElem hlt, some_bind, drop_mem hlt]
    simp only [reach_j3, reach_j2, wrs k (by omega)]
    generalize ds[k] = x
    rcases int_cases x with ⟨b, hb, rfl⟩ | hx
    · rw [bif_t (dec_t (by omega)), bif_t (dec_t (by omega)), inR_ok (by omega) (by omega), some_bind, idxB hb, some_bind]
      cases hd : bat d b with
      | true =>
        obtain ⟨d', l', h1, h2⟩ := ih d l hl
        exact ⟨d', l', by rw [← h1]; rfl, h2.skip fun c _ e => (show c = b by omega) ▸ hd⟩
      | false =>
        have hc := cz_set hb hd
        obtain ⟨d', l', h1, h2⟩ := ih (d.set b true) (l ++ [(b : Int)]) (by simp; omega)
        refine ⟨d', l', ?_, h2.push hb hd⟩
        simp only [Bool.not_false, cond_true, some_bind, setV_ok hb, app_ok (a := l) (b := [(b : Int)]) (len_bytes (show l.length ≤ 100 by omega))]
        exact h1
    · obtain ⟨d', l', h1, h2⟩ := ih d l hl
      refine ⟨d', l', ?_, h2.skip fun c hc e => absurd (show 0 ≤ x ∧ x < 32 by omega) hx⟩
      by_cases h0 : x ≥ 0
      · rw [bif_t (dec_t h0), bif_f (dec_f (by omega))]; exact h1
      · rw [bif_f (dec_f h0)]; exact h1
structure Going (g : GGraph) (s : Nat) (d : Vector Bool 32) (l : List Int) : Prop where
  first : bat d s = true
  path : ∀ k, bat d k = true → Path (Edge g) s k
  work : ∀ x ∈ l, ∃ b : Nat, b < 32 ∧ x = b ∧ bat d b = true
  closed : ∀ a b, bat d a = true → (a : Int) ∉ l → Edge g a b → bat d b = true
theorem Going.fin {g : GGraph} {s : Nat} {d : Vector Bool 32} (h : Going g s d []) (k : Nat) : bat d k = true ↔ Path (Edge g) s k :=
  ⟨h.path k, fun hp => Path.closed (S := fun a => bat d a = true) (fun a b ha he => h.closed a b ha (by simp) he) hp h.first⟩
open Classical in
noncomputable def reachV (g : GGraph) (s : Nat) : Vector Bool 32 := Vector.ofFn fun k => decide (Path (Edge g) s k.val)
theorem bat_reachV {g : GGraph} {s k : Nat} (hk : k < 32) : bat (reachV g s) k = true ↔ Path (Edge g) s k := by
  unfold bat reachV
  simp [hk]
theorem reachV_of {g : GGraph} {s : Nat} {d : Vector Bool 32} (h : ∀ k, bat d k = true ↔ Path (Edge g) s k) : d = reachV g s := by
  refine bat_ext fun k hk => ?_
  rw [Bool.eq_iff_iff, h, bat_reachV hk]
theorem cutL_pop {l : List Int} (h : 0 < l.length) : cutL l none (some ((l.length : Int) - 1)) = some l.dropLast := by
  unfold cutL cutOk
  simp only [Option.getD_none, Option.getD_some]
  rw [if_pos (by omega)]
  simp only [Option.map_some, Option.some.injEq]
  rw [List.dropLast_eq_take, show ((0 : Int)).toNat = 0 from rfl, List.drop_zero]
  congr 1
  omega
theorem reach_l1_eq {fu N : Nat} {g : GGraph} (hg : Small g N) (hf : N ≤ fu) {s : Nat} : ∀ (n : Nat) (d : Vector Bool 32) (l : List Int), Going g s d l → l.length + cz d < n → l.length + cz d ≤ 100 → reach_l1 fu g n d l = some (reachV g s)
  | 0, d, l, _, h, _ => absurd h (by omega)
  | n + 1, d, l, hG, hn, hl => by
    rw [reach_l1]
    by_cases h0 : l.length = 0
    · have : l = [] := List.length_eq_zero_iff.1 h0
      subst this
      rw [bif_f (dec_f (by simp)), some_bind, reachV_of hG.fin]
    · rw [bif_t (dec_t (by omega)), wr64 (by omega) (by omega), show ((l.length : Int) - 1) = ((l.length - 1 : Nat) : Int) from by omega, idx_nat, List.getElem?_eq_getElem (by omega), some_bind,
        show (((l.length - 1 : Nat) : Int)) = (l.length : Int) - 1 from by omega, cutL_pop (by omega), some_bind]
      have hlast : l = l.dropLast ++ [l[l.length - 1]] := by
        have h1 := List.dropLast_concat_getLast (l := l) (by rintro rfl; simp at h0)
        rw [List.getLast_eq_getElem] at h1
        exact h1.symm
      obtain ⟨m, hm, hx, hdm⟩ := hG.work l[l.length - 1] (List.getElem_mem _)
      rw [hx] at hlast ⊢
      generalize hl2 : l.dropLast = l2 at hlast ⊢
      have hlen : l.length = l2.length + 1 := by rw [hlast]; simp
      have hmem : ∀ x, x ∈ l → x ∈ l2 ∨ x = m := fun x hx => by
        rw [hlast] at hx
        rcases List.mem_append.1 hx with h | h
        · exact .inl h
        · exact .inr (by simpa using h)
      have hsub : ∀ x, x ∈ l2 → x ∈ l := fun x hx => by rw [hlast]; exact List.mem_append_left _ hx
      rw [inR_ok (by omega) (by omega), some_bind, idxB hm, some_bind]
      cases hk : bat g.known m with
      | false =>
        rw [bif_t (by rfl)]
        refine reach_l1_eq hg hf n d l2 ⟨hG.first, hG.path, fun x hx => hG.work x (hsub x hx), fun a b ha hno he => ?_⟩ (by omega) (by omega)
        by_cases e : a = m
        · subst e; rw [he.2.1] at hk; cases hk
        · refine hG.closed a b ha (fun hal => ?_) he
          rcases hmem _ hal with h1 | h1
          · exact hno h1
          · omega
      | true =>
        rw [bif_f (by rfl), some_bind, idxD hm, some_bind]
        obtain ⟨d', l', h1, h2⟩ := reach_l2_eq (rec := reach_l1 fu g n) (hg m).2 fu (depsAt g m).length 0 d l2 (by omega) (by have := (hg m).1; omega) (by omega)
        have h1 : reach_l2 (reach_l1 fu g n) (depsAt g m) fu d l2 0 = reach_l1 fu g n d' l' := h1
        rw [h1]
        rw [List.drop_zero] at h2
        have hc := h2.cnt
        refine reach_l1_eq hg hf n d' l' ⟨h2.keep _ hG.first, fun k hk' => ?_, fun x hx => ?_, fun a b ha hno he => ?_⟩ (by omega) (by omega)
        · rcases h2.only k hk' with h3 | ⟨h3, h4⟩
          · exact hG.path k h3
          · rcases h2.new k h4 with h5 | ⟨b, hb, e, _, _⟩
            · obtain ⟨b, hb, e, hd⟩ := hG.work _ (hsub _ h5)
              have : k = b := by omega
              subst this
              exact hG.path k hd
            · have : k = b := by omega
              subst this
              exact .tail (hG.path m hdm) ⟨hm, hk, h3, hb⟩
        · rcases h2.new x hx with h3 | ⟨b, hb, e, _, hd⟩
          · obtain ⟨b, hb, e, hd⟩ := hG.work x (hsub x h3)
            exact ⟨b, hb, e, h2.keep b hd⟩
          · exact ⟨b, hb, e, hd⟩
        · by_cases e : a = m
          · subst e; exact h2.all b he.2.2.2 he.2.2.1
          · rcases h2.only a ha with h3 | ⟨_, h3⟩
            · refine h2.keep b (hG.closed a b h3 (fun hal => ?_) he)
              rcases hmem _ hal with h4 | h4
              · exact hno (h2.old _ h4)
              · omega
            · exact absurd h3 hno
noncomputable def reachZ (g : GGraph) (x : Int) : Vector Bool 32 := if 0 ≤ x ∧ x < 32 then reachV g x.toNat else Zr.zd
theorem start_going (g : GGraph) {s : Nat} (hs : s < 32) : Going g s ((Zr.zd : Vector Bool 32).set s true) [(s : Int)] := by
  have h1 : ∀ k, bat ((Zr.zd : Vector Bool 32).set s true) k = true ↔ s = k := fun k => by
    rw [bat_set hs, bat_zero]
    by_cases e : s = k <;> simp [e]
  refine ⟨(h1 s).2 rfl, fun k hk => ?_, fun x hx => ?_, fun a b ha hno he => ?_⟩
  · rw [(h1 k).1 hk]; exact .refl _
  · exact ⟨s, hs, by simpa using hx, (h1 s).2 rfl⟩
  · have := (h1 a).1 ha
    subst this
    exact absurd (by simp) hno
theorem reachD_eq {fu N : Nat} {g : GGraph} (hg : Small g N) (hf : N + 40 ≤ fu) (x : Int) : reachD fu g x = some (reachZ g x) := by
  unfold reachD reachZ
  rcases int_cases x with ⟨s, hs, rfl⟩ | hx
  · rw [bif_f (dec_f (by omega)), reach_j4, bif_f (dec_f (by omega)), if_pos (by omega), reach_j1, inR_ok (by omega) (by omega), some_bind, idxB hs, some_bind, setV_ok hs, some_bind, some_bind]
    have hc := cz_le ((Zr.zd : Vector Bool 32).set s true)
    exact reach_l1_eq hg (by omega) fu _ _ (start_going g hs) (by simp; omega) (by simp; omega)
  · rw [if_neg hx]
    by_cases h0 : x < 0
    · rw [bif_t (dec_t h0)]; rfl
    · rw [bif_f (dec_f h0), reach_j4, bif_t (dec_t (by omega))]; rfl
structure Grown (ds : List Int) (d : Vector Bool 32) (c : Bool) (d' : Vector Bool 32) (c' : Bool) : Prop where
  keep : ∀ k, bat d k = true → bat d' k = true
  all : ∀ b : Nat, b < 32 → (b : Int) ∈ ds → bat d' b = true
  only : ∀ k, bat d' k = true → bat d k = true ∨ ((k : Int) ∈ ds ∧ k < 32)
  same : c' = false → c = false ∧ d' = d
  less : c' = true → c = true ∨ cz d' < cz d
theorem Grown.cz {ds : List Int} {d d' : Vector Bool 32} {c c' : Bool} (h : Grown ds d c d' c') : cz d' ≤ cz d := cz_mono h.keep
theorem reaches_l3_eq {y : Int} {rec : Vector Bool 32 → Bool → Int → Option (Vector Bool 32)} {ds : List Int} (hds : ds.length ≤ 17592186043904) : ∀ (n m k : Nat) (d : Vector Bool 32) (c : Bool), ds.length = k + m → m < n →
    ∃ d' c', reaches_l3 y rec ds n d c k = rec d' c' (IntKind.wrap .i64 (y + 1)) ∧ Grown (ds.drop k) d c d' c'
  | 0, m, k, d, c, _, h => absurd h (by omega)
  | n + 1, 0, k, d, c, hk, _ => ⟨d, c, by rw [reaches_l3, bif_f (dec_f (by omega))]; rfl, by
      rw [List.drop_of_length_le (by omega)]
      exact ⟨fun _ h => h, fun _ _ h => by simp at h, fun _ h => .inl h, fun h => ⟨h, rfl⟩, fun h => .inl h⟩⟩
  | n + 1, m + 1, k, d, c, hk, hn => by
    have hlt : k < ds.length := by omega
    have ih := fun d c => reaches_l3_eq (y := y) (rec := rec) hds n m (k + 1) d c (by omega) (by omega)
    rw [reaches_l3, bif_t (dec_t (by omega)), idx_nat, List.getElem?_eq_getElem hlt, some_bind, some_bind, drop_mem hlt]
    simp only [reaches_j4, reaches_j3, wrs k (by omega)]
    generalize ds[k] = x
    have skip : ∀ {d' c'}, (∀ b : Nat, b < 32 → x = b → bat d b = true) → Grown (ds.drop (k + 1)) d c d' c' → Grown (x :: ds.drop (k + 1)) d c d' c' := fun {d' c'} hx h2 =>
      ⟨h2.keep, fun b hb hm => by
        rcases List.mem_cons.1 hm with e | hm
        · exact h2.keep b (hx b hb e.symm)
        · exact h2.all b hb hm, fun j hj => by
        rcases h2.only j hj with h | h
        · exact .inl h
        · exact .inr ⟨List.mem_cons_of_mem _ h.1, h.2⟩, h2.same, h2.less⟩
    rcases int_cases x with ⟨b, hb, rfl⟩ | hx
    · rw [bif_t (dec_t (by omega)), inR_ok (by omega) (by omega), some_bind, idxB hb, some_bind]
      cases hd : bat d b with
      | true =>
        obtain ⟨d', c', h1, h2⟩ := ih d c
        exact ⟨d', c', by rw [← h1]; rfl, skip (fun a _ e => (show a = b by omega) ▸ hd) h2⟩
      | false =>
        obtain ⟨d', c', h1, h2⟩ := ih (d.set b true) true
        have hset : bat (d.set b true) b = true := by rw [bat_set hb, if_pos rfl]
        have hcz := cz_set hb hd
        have hcz2 := h2.cz
        refine ⟨d', c', ?_, ⟨fun j hj => h2.keep j (by rw [bat_set hb]; split <;> simp [hj]), fun a ha hm => ?_, fun j hj => ?_, fun hc => ?_, fun _ => .inr (by omega)⟩⟩
        · simp only [Bool.not_false, cond_true, some_bind, setV_ok hb]
          exact h1
        · rcases List.mem_cons.1 hm with e | hm
          · have : a = b := by omega
            subst this
            exact h2.keep a hset
          · exact h2.all a ha hm
        · rcases h2.only j hj with h | h
          · rw [bat_set hb] at h
            by_cases e : b = j
            · subst e; exact .inr ⟨List.mem_cons_self, hb⟩
            · rw [if_neg e] at h; exact .inl h
          · exact .inr ⟨List.mem_cons_of_mem _ h.1, h.2⟩
        · have := (h2.same hc).1; cases this
    · obtain ⟨d', c', h1, h2⟩ := ih d c
      refine ⟨d', c', ?_, skip (fun a ha e => absurd (show 0 ≤ x ∧ x < 32 by omega) hx) h2⟩
      rw [bif_f (dec_f hx)]; exact h1
structure Pass (g : GGraph) (s : Nat) (k : Nat) (d0 d : Vector Bool 32) (c : Bool) : Prop where
  keep : ∀ j, bat d0 j = true → bat d j = true
  path : ∀ j, bat d j = true → Path (Edge g) s j
  same : c = false → d = d0 ∧ ∀ a b, a < k → bat d0 a = true → Edge g a b → bat d0 b = true
  less : c = true → cz d < cz d0
theorem reaches_l2_eq {fu N : Nat} {g : GGraph} (hg : Small g N) (hf : N ≤ fu) {s : Nat} {rec : Vector Bool 32 → Bool → Option (Vector Bool 32)} {d0 : Vector Bool 32} : ∀ (n m k : Nat) (d : Vector Bool 32) (c : Bool), k + m = 32 → m < n → Pass g s k d0 d c →
    ∃ d' c', reaches_l2 fu g rec n d c k = rec d' c' ∧ Pass g s 32 d0 d' c'
  | 0, m, k, d, c, _, h, _ => absurd h (by omega)
  | n + 1, 0, k, d, c, hk, _, hp => ⟨d, c, by rw [reaches_l2, bif_f (dec_f (by omega))], by rw [show (32 : Nat) = k from by omega]; exact hp⟩
  | n + 1, m + 1, k, d, c, hk, hn, hp => by
    have hk32 : k < 32 := by omega
    have ih := fun d c => reaches_l2_eq (s := s) hg hf (rec := rec) (d0 := d0) n m (k + 1) d c (by omega) (by omega)
    have stay : (bat d k = true → bat g.known k = true → False) → Pass g s (k + 1) d0 d c := fun hno =>
      ⟨hp.keep, hp.path, fun hc => ⟨(hp.same hc).1, fun a b ha h0 he => by
        by_cases e : a = k
        · subst e
          exact (hno (hp.keep a h0) he.2.1).elim
        · exact (hp.same hc).2 a b (by omega) h0 he⟩, hp.less⟩
    rw [reaches_l2, bif_t (dec_t (by omega)), inR_ok (by omega) (by omega), some_bind, idxB hk32, some_bind]
    cases hd : bat d k with
    | false =>
      obtain ⟨d', c', h1, h2⟩ := ih d c (stay fun h => by rw [hd] at h; cases h)
      refine ⟨d', c', ?_, h2⟩
      simp only [Bool.not_false, cond_true, reaches_j5, reaches_j1, wrs k (by omega)]
      exact h1
    | true =>
      rw [bif_f (by rfl), some_bind, idxB hk32, some_bind]
      cases hkn : bat g.known k with
      | false =>
        obtain ⟨d', c', h1, h2⟩ := ih d c (stay fun _ h => by rw [hkn] at h; cases h)
        refine ⟨d', c', ?_, h2⟩
        simp only [Bool.not_false, cond_true, reaches_j5, reaches_j1, wrs k (by omega)]
        exact h1
      | true =>
        obtain ⟨d1, c1, h1, h2⟩ := reaches_l3_eq (y := (k : Int)) (rec := reaches_l2 fu g rec n) (hg k).2 fu (depsAt g k).length 0 d c (by omega) (by have := (hg k).1; omega)
        have h1 : reaches_l3 (k : Int) (reaches_l2 fu g rec n) (depsAt g k) fu d c 0 = _ := h1
        rw [List.drop_zero] at h2
        have hpass : Pass g s (k + 1) d0 d1 c1 := by
          refine ⟨fun j hj => h2.keep j (hp.keep j hj), fun j hj => ?_, fun hc => ?_, fun hc => ?_⟩
          · rcases h2.only j hj with h | h
            · exact hp.path j h
            · exact .tail (hp.path k hd) ⟨hk32, hkn, h.1, h.2⟩
          · obtain ⟨hc0, hdd⟩ := h2.same hc
            obtain ⟨e0, hcl⟩ := hp.same hc0
            refine ⟨hdd.trans e0, fun a b ha h0 he => ?_⟩
            by_cases e : a = k
            · subst e
              have := h2.all b he.2.2.2 he.2.2.1
              rw [hdd, e0] at this
              exact this
            · exact hcl a b (by omega) h0 he
          · rcases h2.less hc with h | h
            · have h3 := hp.less h
              have h4 := h2.cz
              omega
            · have h3 := cz_mono hp.keep
              omega
        obtain ⟨d', c', h3, h4⟩ := ih d1 c1 hpass
        refine ⟨d', c', ?_, h4⟩
        simp only [Bool.not_true, cond_false, reaches_j5, reaches_j2]
        rw [inR_ok (by omega) (by omega), some_bind, idxD hk32, some_bind, h1, wrs k (by omega)]
        exact h3
theorem reaches_l1_eq {fu N : Nat} {g : GGraph} (hg : Small g N) (hf : N + 40 ≤ fu) {s : Nat} : ∀ (n : Nat) (d : Vector Bool 32), bat d s = true → (∀ j, bat d j = true → Path (Edge g) s j) → cz d + 1 < n → reaches_l1 fu g n d true = some (reachV g s)
  | 0, d, _, _, h => absurd h (by omega)
  | n + 1, d, h0, hp, hn => by
    rw [reaches_l1, bif_t rfl]
    obtain ⟨d', c', h1, h2⟩ := reaches_l2_eq (s := s) hg (show N ≤ fu by omega) (rec := reaches_l1 fu g n) (d0 := d) fu 32 0 d false (by omega) (by omega)
      ⟨fun _ h => h, hp, fun _ => ⟨rfl, fun a b ha => absurd ha (by omega)⟩, fun h => by cases h⟩
    have h1 : reaches_l2 fu g (reaches_l1 fu g n) fu d false 0 = _ := h1
    rw [h1]
    cases c' with
    | true =>
      have := h2.less rfl
      exact reaches_l1_eq hg hf n d' (h2.keep s h0) h2.path (by omega)
    | false =>
      obtain ⟨rfl, hcl⟩ := h2.same rfl
      obtain ⟨n, rfl⟩ : ∃ q, n = q + 1 := ⟨n - 1, by omega⟩
      rw [reaches_l1, bif_f rfl, some_bind]
      refine congrArg some (reachV_of fun k => ⟨hp k, fun h => Path.closed (S := fun a => bat d' a = true) (fun a b ha he => hcl a b he.1 ha he) h h0⟩)
theorem reachesD_eq {fu N : Nat} {g : GGraph} (hg : Small g N) (hf : N + 40 ≤ fu) (x : Int) : reachesD fu g x = some (reachZ g x) := by
  unfold reachesD reachZ
  rw [some_bind]
  rcases int_cases x with ⟨s, hs, rfl⟩ | hx
  · rw [dec_t (show (0 : Int) ≤ s ∧ (s : Int) < 32 by omega), bif_f (c := !true) rfl, if_pos (by omega), inR_ok (by omega) (by omega), some_bind, idxB hs, some_bind, setV_ok hs, some_bind, some_bind]
    have hG := start_going g hs
    have hc := cz_le ((Zr.zd : Vector Bool 32).set s true)
    exact reaches_l1_eq hg hf fu _ hG.first hG.path (by omega)
  · rw [dec_f hx, bif_t (c := !false) rfl, if_neg hx, some_bind]
def allKnown (g : GGraph) (d : Vector Bool 32) (k : Nat) : Prop := ∀ j, k ≤ j → j < 32 → bat d j = true → bat g.known j = true
open Classical in
noncomputable def readyZ (g : GGraph) (x : Int) : Bool := decide ((0 ≤ x ∧ x < 32) ∧ ∀ j, j < 32 → bat (reachZ g x) j = true → bat g.known j = true)
theorem ready_l1_eq {g : GGraph} {d : Vector Bool 32} : ∀ (n m k : Nat), k + m = 32 → m < n → ∃ b, ready_l1 g d n k = some b ∧ (b = true ↔ allKnown g d k)
  | 0, m, k, _, h => absurd h (by omega)
  | n + 1, 0, k, hk, _ => ⟨true, by rw [ready_l1, bif_f (dec_f (by omega))], by simp only [true_iff]; intro j h1 h2; omega⟩
  | n + 1, m + 1, k, hk, hn => by
    have hk32 : k < 32 := by omega
    obtain ⟨b, h1, h2⟩ := ready_l1_eq (g := g) (d := d) n m (k + 1) (by omega) (by omega)
    rw [ready_l1, bif_t (dec_t (by omega)), idxB hk32, some_bind]
    simp only [ready_j3, ready_j2, wrs k (by omega)]
    have step : (bat d k = true → bat g.known k = true) → (b = true ↔ allKnown g d k) := fun hs => by
      rw [h2]
      constructor
      · intro h j hj
        by_cases e : j = k
        · subst e; intro _; exact hs
        · exact h j (by omega)
      · intro h j hj
        exact h j (by omega)
    cases hd : bat d k with
    | false => exact ⟨b, h1, step fun h => by rw [hd] at h; cases h⟩
    | true =>
      rw [bif_t rfl, inR_ok (by omega) (by omega), some_bind, idxB hk32, some_bind]
      cases hkn : bat g.known k with
      | true => exact ⟨b, h1, step fun _ => hkn⟩
      | false =>
        refine ⟨false, rfl, ?_⟩
        simp only [Bool.false_eq_true, false_iff]
        intro h
        have := h k (Nat.le_refl _) hk32 hd
        rw [hkn] at this; cases this
theorem readyIn_l1_eq {g : GGraph} {x : Int} {d : Vector Bool 32} : ∀ (n m k : Nat), k + m = 32 → m < n → ∃ b, readyIn_l1 g x d n k = some b ∧ (b = true ↔ (0 ≤ x ∧ x < 32) ∧ allKnown g d k)
  | 0, m, k, _, h => absurd h (by omega)
  | n + 1, 0, k, hk, _ => ⟨decide (0 ≤ x ∧ x < 32), by rw [readyIn_l1, bif_f (dec_f (by omega)), some_bind], by
      simp only [decide_eq_true_eq]
      exact ⟨fun h => ⟨h, fun j h1 h2 => by omega⟩, fun h => h.1⟩⟩
  | n + 1, m + 1, k, hk, hn => by
    have hk32 : k < 32 := by omega
    obtain ⟨b, h1, h2⟩ := readyIn_l1_eq (g := g) (x := x) (d := d) n m (k + 1) (by omega) (by omega)
    rw [readyIn_l1, bif_t (dec_t (by omega)), idxB hk32, some_bind]
    simp only [readyIn_j2, readyIn_j1, wrs k (by omega)]
    have step : (bat d k = true → bat g.known k = true) → (b = true ↔ (0 ≤ x ∧ x < 32) ∧ allKnown g d k) := fun hs => by
      rw [h2]
      refine and_congr_right fun _ => ?_
      constructor
      · intro h j hj
        by_cases e : j = k
        · subst e; intro _; exact hs
        · exact h j (by omega)
      · intro h j hj
        exact h j (by omega)
    cases hd : bat d k with
    | false => exact ⟨b, h1, step fun h => by rw [hd] at h; cases h⟩
    | true =>
      rw [bif_t rfl, inR_ok (by omega) (by omega), some_bind, idxB hk32, some_bind]
      cases hkn : bat g.known k with
      | true => exact ⟨b, h1, step fun _ => hkn⟩
      | false =>
        refine ⟨false, rfl, ?_⟩
        simp only [Bool.false_eq_true, false_iff]
        intro h
        have := h.2 k (Nat.le_refl _) hk32 hd
        rw [hkn] at this; cases this
theorem readyZ_iff {g : GGraph} {x : Int} : readyZ g x = true ↔ (0 ≤ x ∧ x < 32) ∧ allKnown g (reachZ g x) 0 := by
  unfold readyZ allKnown
  simp
theorem readyD_eq {fu N : Nat} {g : GGraph} (hg : Small g N) (hf : N + 40 ≤ fu) (x : Int) : readyD fu g x = some (readyZ g x) := by
  unfold readyD
  rcases int_cases x with ⟨s, hs, rfl⟩ | hx
  · rw [bif_f (dec_f (by omega)), ready_j4, bif_f (dec_f (by omega)), ready_j1, reachD_eq hg hf, some_bind]
    obtain ⟨b, h1, h2⟩ := ready_l1_eq (g := g) (d := reachZ g s) fu 32 0 (by omega) (by omega)
    have h1 : ready_l1 g (reachZ g s) fu 0 = some b := h1
    rw [h1]
    congr 1
    rw [Bool.eq_iff_iff, h2, readyZ_iff]
    simp; omega
  · have : readyZ g x = false := by
      cases h : readyZ g x with
      | false => rfl
      | true => exact absurd (readyZ_iff.1 h).1 hx
    rw [this]
    by_cases h0 : x < 0
    · rw [bif_t (dec_t h0)]; rfl
    · rw [bif_f (dec_f h0), ready_j4, bif_t (dec_t (by omega))]
theorem readyInD_eq {fu N : Nat} {g : GGraph} (hg : Small g N) (hf : N + 40 ≤ fu) (x : Int) : readyInD fu g x = some (readyZ g x) := by
  unfold readyInD
  rw [reachesD_eq hg hf, some_bind]
  obtain ⟨b, h1, h2⟩ := readyIn_l1_eq (g := g) (x := x) (d := reachZ g x) fu 32 0 (by omega) (by omega)
  have h1 : readyIn_l1 g x (reachZ g x) fu 0 = some b := h1
  rw [h1]
  congr 1
  rw [Bool.eq_iff_iff, h2, readyZ_iff]
end Go.Proofs.Ytopgdemmdcipcaa
