/- What the proof of NodeTakes rests on, part 5: rules of walks, what functions compute, and plain laws of it. -/
import Derived.Test.YtopgdemmdcipcaaNodeTakesB4
namespace Go.Proofs.Ytopgdemmdcipcaa
open Go.RowKit
open Rep (rep)
set_option linter.unusedVariables false
def sameEntry_j1 (c10 : Bool) : Option Bool :=
 some c10
def sameEntryD (fu : Nat) (x1 : GEntry) (x2 : GEntry) : Option Bool :=
 (bif x1.state == x2.state then
 (sameOpsD fu x1.ops x2.ops).bind fun r18 =>
 (bif r18 then
 (some (sameZ x1.first x2.first)).bind fun r24 =>
 (bif r24 then
 (some (sameZ x1.deps x2.deps)).bind fun r30 =>
 (bif r30 then
 (some (sameZ x1.at_ x2.at_)).bind fun r36 =>
 (bif r36 then
 (some (sameZ x1.values x2.values)).bind fun r42 =>
 sameEntry_j1 r42
 else
 sameEntry_j1 false)
 else
 sameEntry_j1 false)
 else
 sameEntry_j1 false)
 else
 sameEntry_j1 false)
 else
 sameEntry_j1 false)
set_option maxRecDepth 100000 in
set_option maxHeartbeats 4000000 in
theorem sameEntry_ok {M : Mm} {w : World} {cx1 : List Value} {cx2 : List Value} {x1 : GEntry} {x2 : GEntry} {fu : Nat} {r : Bool} (hA : Agree M w) (hcx1 : rep M cx1 x1) (hcx2 : rep M cx2 x2) (hz : sameEntryD fu x1 x2 = some r) :
    Calls Try.prog 61 #[.agg cx1.toArray, .agg cx2.toArray] w (GivesV w (.bool r)) := by
 refine calls_W Try.func61 rfl 45 rfl rfl (by kernel_rfl) fun T hT => ?_
 have hT_0 : T 0 = .agg cx1.toArray := hT 0
 have hT_1 : T 1 = .agg cx2.toArray := hT 1
 clear hT
 have hE := Mm.ext.refl w.heap.size noX M
 have hS : St w noX M [] w := St.start hA
 rw [sameEntryD] at hz
 refine W_seq <|W_reg ?_
 refine WL_c (O_box (v := .agg cx1.toArray) (cs := cx1) hT_0 rfl hS ?_)
 intro b4 w3 hb4 hS
 replace hS : St w noX M [.box b4 cx1 44] w3 := hS
 refine WL_c (O_box (v := .agg cx2.toArray) (cs := cx2) hT_1 rfl hS ?_)
 intro b6 w5 hb6 hS
 replace hS : St w noX M [.box b6 cx2 44, .box b4 cx1 44] w5 := hS
 refine WL_y (Y_assign (.bool false) rfl) ?_
 refine WL_nil (nm_then ?_)
 refine W_seqJ (fun T' w' => ∃ M8 c10, Mm.ext w.heap.size noX M M8 ∧ St w noX M8 [.box b6 cx2 44, .box b4 cx1 44] w' ∧ T' 4 = .bool c10 ∧ sameEntry_j1 c10 = some r) ?_ ?_
 have hF12 := Mm.ext.refl w.heap.size noX M
 refine W_reg <|WL_y (Y_fa fa44_0 rfl) <|WL_y (Y_ld1 (.int .i64 x1.state) ts3 rfl (hS.bvB 1 rfl) (GEntry.p0 (rep_root (k := 6) rfl hcx1))) <|WL_y (Y_fa fa44_0 rfl) <|WL_y (Y_ld1 (.int .i64 x2.state) ts3 rfl (hS.bvB 0 rfl) (GEntry.p0 (rep_root (k := 6) rfl hcx2))) <|WL_y (Y_eql rfl rfl) <|WL_y (Y_move (.bool (x1.state == x2.state)) rfl) ?_
 rcases ic hz with ⟨hc13, hz⟩ | ⟨hc13, hz⟩ <;> rw [hc13]
 refine WL_gy rfl rfl (Y_fa fa44_1 rfl) ?_
 obtain ⟨v14, ev14, hv14⟩ := (GEntry.p1 (rep_root (k := 6) rfl hcx1))
 refine WL_gy rfl rfl (Y_ld1 v14 ts22 rfl (hS.bvB 1 rfl) ev14) <|WL_gy rfl rfl (Y_fa fa44_1 rfl) ?_
 obtain ⟨v15, ev15, hv15⟩ := (GEntry.p1 (rep_root (k := 6) rfl hcx2))
 refine WL_gy rfl rfl (Y_ld1 v15 ts22 rfl (hS.bvB 0 rfl) ev15) ?_
 obtain ⟨r18, hr17, hz⟩ := bind_ok hz
 refine WL_g rfl rfl (O_val (vs := [v14, v15]) (v := .bool r18) cb67 (args2 rfl rfl) hS (sameOps_ok hS.agree hv14 hv15 hr17) ?_)
 intro w16 hS
 refine WL_d 2 rfl ?_
 rcases ic hz with ⟨hc19, hz⟩ | ⟨hc19, hz⟩ <;> rw [hc19]
 refine WL_gy rfl rfl (Y_fa fa44_2 rfl) ?_
 obtain ⟨v20, ev20, hv20⟩ := (GEntry.p2 (rep_root (k := 6) rfl hcx1))
 refine WL_gy rfl rfl (Y_ld1 v20 ts27 rfl (hS.bvB 1 rfl) ev20) <|WL_gy rfl rfl (Y_fa fa44_2 rfl) ?_
 obtain ⟨v21, ev21, hv21⟩ := (GEntry.p2 (rep_root (k := 6) rfl hcx2))
 refine WL_gy rfl rfl (Y_ld1 v21 ts27 rfl (hS.bvB 0 rfl) ev21) ?_
 obtain ⟨r24, hr23, hz⟩ := bind_ok hz
 replace hr23 := Option.some.inj hr23
 refine WL_g rfl rfl (O_val (vs := [v20, v21]) (v := .bool r24) cb36 (args2 rfl rfl) hS (hr23 ▸ (c_sameNumbers hS.agree hv20 hv21)) ?_)
 intro w22 hS
 refine WL_d 2 rfl ?_
 rcases ic hz with ⟨hc25, hz⟩ | ⟨hc25, hz⟩ <;> rw [hc25]
 refine WL_gy rfl rfl (Y_fa fa44_3 rfl) ?_
 obtain ⟨v26, ev26, hv26⟩ := (GEntry.p3 (rep_root (k := 6) rfl hcx1))
 refine WL_gy rfl rfl (Y_ld1 v26 ts27 rfl (hS.bvB 1 rfl) ev26) <|WL_gy rfl rfl (Y_fa fa44_3 rfl) ?_
 obtain ⟨v27, ev27, hv27⟩ := (GEntry.p3 (rep_root (k := 6) rfl hcx2))
 refine WL_gy rfl rfl (Y_ld1 v27 ts27 rfl (hS.bvB 0 rfl) ev27) ?_
 obtain ⟨r30, hr29, hz⟩ := bind_ok hz
 replace hr29 := Option.some.inj hr29
 refine WL_g rfl rfl (O_val (vs := [v26, v27]) (v := .bool r30) cb36 (args2 rfl rfl) hS (hr29 ▸ (c_sameNumbers hS.agree hv26 hv27)) ?_)
 intro w28 hS
 refine WL_d 2 rfl ?_
 rcases ic hz with ⟨hc31, hz⟩ | ⟨hc31, hz⟩ <;> rw [hc31]
 refine WL_gy rfl rfl (Y_fa fa44_4 rfl) ?_
 obtain ⟨v32, ev32, hv32⟩ := (GEntry.p4 (rep_root (k := 6) rfl hcx1))
 refine WL_gy rfl rfl (Y_ld1 v32 ts27 rfl (hS.bvB 1 rfl) ev32) <|WL_gy rfl rfl (Y_fa fa44_4 rfl) ?_
 obtain ⟨v33, ev33, hv33⟩ := (GEntry.p4 (rep_root (k := 6) rfl hcx2))
 refine WL_gy rfl rfl (Y_ld1 v33 ts27 rfl (hS.bvB 0 rfl) ev33) ?_
 obtain ⟨r36, hr35, hz⟩ := bind_ok hz
 replace hr35 := Option.some.inj hr35
 refine WL_g rfl rfl (O_val (vs := [v32, v33]) (v := .bool r36) cb36 (args2 rfl rfl) hS (hr35 ▸ (c_sameNumbers hS.agree hv32 hv33)) ?_)
 intro w34 hS
 refine WL_d 2 rfl ?_
 rcases ic hz with ⟨hc37, hz⟩ | ⟨hc37, hz⟩ <;> rw [hc37]
 refine WL_gy rfl rfl (Y_fa fa44_5 rfl) ?_
 obtain ⟨v38, ev38, hv38⟩ := (GEntry.p5 (rep_root (k := 6) rfl hcx1))
 refine WL_gy rfl rfl (Y_ld1 v38 ts27 rfl (hS.bvB 1 rfl) ev38) <|WL_gy rfl rfl (Y_fa fa44_5 rfl) ?_
 obtain ⟨v39, ev39, hv39⟩ := (GEntry.p5 (rep_root (k := 6) rfl hcx2))
 refine WL_gy rfl rfl (Y_ld1 v39 ts27 rfl (hS.bvB 0 rfl) ev39) ?_
 obtain ⟨r42, hr41, hz⟩ := bind_ok hz
 replace hr41 := Option.some.inj hr41
 refine WL_g rfl rfl (O_val (vs := [v38, v39]) (v := .bool r42) cb36 (args2 rfl rfl) hS (hr41 ▸ (c_sameNumbers hS.agree hv38 hv39)) ?_)
 intro w40 hS
 refine WL_d 2 rfl ?_
 refine WL_nil (nm_then ?_)
 exact ⟨M, r42, hF12, hS, rfl, hz⟩
 refine WL_d 7 rfl ?_
 refine WL_nil (nm_then ?_)
 exact ⟨M, false, hF12, hS, rfl, hz⟩
 refine WL_d 14 rfl ?_
 refine WL_nil (nm_then ?_)
 exact ⟨M, false, hF12, hS, rfl, hz⟩
 refine WL_d 21 rfl ?_
 refine WL_nil (nm_then ?_)
 exact ⟨M, false, hF12, hS, rfl, hz⟩
 refine WL_d 28 rfl ?_
 refine WL_nil (nm_then ?_)
 exact ⟨M, false, hF12, hS, rfl, hz⟩
 refine WL_d 35 rfl ?_
 refine WL_nil (nm_then ?_)
 exact ⟨M, false, hF12, hS, rfl, hz⟩
 rintro T9 w7 ⟨M8, c10, hx11, hS, hT9_4, hz⟩
 replace hcx1 := Rep.mono hx11.1 hcx1
 replace hcx2 := Rep.mono hx11.1 hcx2
 replace hE := Mm.ext.trans hE hx11
 rw [sameEntry_j1] at hz
 cases hz
 exact W_ret (R_t1 rfl hT9_4 ⟨rfl, (St.dropB (St.dropB hS hb6) hb4).kept⟩)
def sameNode_j1 (c37 : Bool) : Option Bool :=
 some c37
def sameNode_l1 (fu : Nat) (x1 : GNode) (x2 : GNode) : Nat → Int → Option Bool
 | 0, _ => none
 | n + 1, y10 =>
 (bif decide (y10 < 32) then
 (inR y10 32).bind fun _ =>
 (idxV x1.entries y10).bind fun x21 =>
 (inR y10 32).bind fun _ =>
 (idxV x2.entries y10).bind fun x26 =>
 (sameEntryD fu x21 x26).bind fun r31 =>
 (bif !r31 then
 some false
 else
 (sameNode_l1 fu x1 x2 n) (IntKind.wrap .i64 (y10 + 1)))
 else
 (some (sameZ x1.order x2.order)).bind fun r44 =>
 (bif r44 then
 sameNode_j1 (decide (x1.values = x2.values))
 else
 sameNode_j1 false))
def sameNodeD (fu : Nat) (x1 : GNode) (x2 : GNode) : Option Bool :=
 sameNode_l1 fu x1 x2 fu 0
set_option maxRecDepth 100000 in
set_option maxHeartbeats 4000000 in
theorem sameNode_ok {M : Mm} {w : World} {cx1 : List Value} {cx2 : List Value} {x1 : GNode} {x2 : GNode} {fu : Nat} {r : Bool} (hA : Agree M w) (hcx1 : rep M cx1 x1) (hcx2 : rep M cx2 x2) (hz : sameNodeD fu x1 x2 = some r) :
    Calls Try.prog 19 #[.agg cx1.toArray, .agg cx2.toArray] w (GivesV w (.bool r)) := by
 refine calls_W Try.func19 rfl 32 rfl rfl (by kernel_rfl) fun T hT => ?_
 have hT_0 : T 0 = .agg cx1.toArray := hT 0
 have hT_1 : T 1 = .agg cx2.toArray := hT 1
 clear hT
 have hE := Mm.ext.refl w.heap.size noX M
 have hS : St w noX M [] w := St.start hA
 rw [sameNodeD] at hz
 refine W_seq <|W_reg ?_
 refine WL_c (O_box (v := .agg cx1.toArray) (cs := cx1) hT_0 rfl hS ?_)
 intro b4 w3 hb4 hS
 replace hS : St w noX M [.box b4 cx1 48] w3 := hS
 refine WL_c (O_box (v := .agg cx2.toArray) (cs := cx2) hT_1 rfl hS ?_)
 intro b6 w5 hb6 hS
 replace hS : St w noX M [.box b6 cx2 48, .box b4 cx1 48] w5 := hS
 refine WL_y (Y_assign (.bool false) rfl) ?_
 refine WL_nil (nm_then ?_)
 refine W_seq <|W_seq <|W_reg <|WL_y (Y_move (.int .i64 0) rfl) ?_
 refine WL_nil (nm_then ?_)
 refine W_block ?_
 refine W_loop (fun k12 T' w' => ∃ M8 y10, Mm.ext w.heap.size noX M M8 ∧ St w noX M8 [.box b6 cx2 48, .box b4 cx1 48] w' ∧ T' 2 = .pointer (some ⟨b4, 0, none⟩) ∧ T' 3 = .pointer (some ⟨b6, 0, none⟩) ∧ T' 6 = .int .i64 y10 ∧ sameNode_l1 fu x1 x2 k12 y10 = some r) fu ?_ ?_ ?_
 exact ⟨M, (0 : Int), (Mm.ext.refl _ _ _), hS, rfl, rfl, rfl, hz⟩
 rintro T' w' ⟨_, _, _, _, _, _, _, hz⟩
 rw [sameNode_l1] at hz
 cases hz
 intro k12
 rintro T9 w7 ⟨M8, y10, hx14, hS, hT9_2, hT9_3, hT9_6, hz⟩
 replace hcx1 := Rep.mono hx14.1 hcx1
 replace hcx2 := Rep.mono hx14.1 hcx2
 replace hE := Mm.ext.trans hE hx14
 have hF13 := hx14
 rw [sameNode_l1] at hz
 obtain ⟨rec11, hrec11⟩ : ∃ f, f = sameNode_l1 fu x1 x2 k12 := ⟨_, rfl⟩
 rw [← hrec11] at hz
 refine W_seq <|W_reg <|WL_y (Y_lss hT9_6 rfl) ?_
 refine WL_nil (nm_then ?_)
 refine W_seq ?_
 refine W_cond rfl (fun hc15 => ?_) (fun hc15 => ?_)
 replace hz := bif_ok_t hz hc15
 refine W_skip (nm_then ?_)
 refine W_seq <|W_block <|W_seq <|W_reg <|WL_y (Y_move (.int .i64 y10) hT9_6) <|WL_y (Y_assign (.int .i64 y10) rfl) ?_
 refine WL_nil (nm_then ?_)
 refine W_seq <|W_drawB (Rd M8 [.box b6 cx2 48, .box b4 cx1 48]) (inL []) mixed hS fun w16 hS => ?_
 have hG17 := Mm.ext.refl w.heap.size noX M8
 have hR18 : Rd M8 [.box b6 cx2 48, .box b4 cx1 48] w16 := Rd.of hS hG17 (by simp)
 refine WB_y (i := 0) rfl (by kernel_rfl) rfl (Y_move (.int .i64 y10) rfl) (fun _ => hR18) <|WB_y (i := 1) rfl (by kernel_rfl) rfl (Y_fa fa48_0 hT9_2) (fun _ => hR18) ?_
 obtain ⟨u19, hx20, hz⟩ := bind_ok hz
 obtain ⟨hx20a, hx20b⟩ := inR_some hx20
 refine WB_y (i := 2) rfl (by kernel_rfl) rfl (Y_ixA ia45 rfl rfl hx20a hx20b) (fun _ => hR18) ?_
 obtain ⟨x21, hx22, hz⟩ := bind_ok hz
 have ha23 := (vp (k := 6) rfl rfl (GNode.p0 (rep_root (k := 201) rfl hcx1)) hx22)
 refine WB_ld (i := 3) rfl (by kernel_rfl) rfl (inL_lt rfl) (by kernel_rfl) (by kernel_rfl) (Y_ldn ta44 rfl (bvR 1 rfl) (Rep.len ha23)) hR18 <|WB_y (i := 4) rfl (by kernel_rfl) rfl (Y_move (.int .i64 y10) rfl) (fun _ => hR18) <|WB_y (i := 5) rfl (by kernel_rfl) rfl (Y_fa fa48_0 hT9_3) (fun _ => hR18) ?_
 obtain ⟨u24, hx25, hz⟩ := bind_ok hz
 obtain ⟨hx25a, hx25b⟩ := inR_some hx25
 refine WB_y (i := 6) rfl (by kernel_rfl) rfl (Y_ixA ia45 rfl rfl hx25a hx25b) (fun _ => hR18) ?_
 obtain ⟨x26, hx27, hz⟩ := bind_ok hz
 have ha28 := (vp (k := 6) rfl rfl (GNode.p0 (rep_root (k := 201) rfl hcx2)) hx27)
 refine WB_ld (i := 7) rfl (by kernel_rfl) rfl (inL_lt rfl) (by kernel_rfl) (by kernel_rfl) (Y_ldn ta44 rfl (bvR 0 rfl) (Rep.len ha28)) hR18 ?_
 obtain ⟨r31, hr30, hz⟩ := bind_ok hz
 refine WB_one (i := 8) (by kernel_rfl) rfl (O_val (vs := [.agg (sl cx1 (0 + 0 + Int.toNat y10 * 6) 6).toArray, .agg (sl cx2 (0 + 0 + Int.toNat y10 * 6) 6).toArray]) (v := .bool r31) cb61 (args2 rfl rfl) hS (sameEntry_ok hS.agree ha23 ha28 hr30) ?_)
 intro w29 hS
 have hR32 : Rd M8 [.box b6 cx2 48, .box b4 cx1 48] w29 := Rd.of hS hG17 (by simp)
 refine ⟨fun _ => hR32, ?_⟩
 refine WB_y (i := 9) rfl (by kernel_rfl) rfl (Y_not rfl) (fun _ => hR32) ?_
 refine WB_done (by kernel_rfl) (nm_then ?_)
 refine W_cond rfl (fun hc33 => ?_) (fun hc33 => ?_)
 replace hz := bif_ok_t hz hc33
 refine W_seq <|W_reg <|WL_y (Y_assign (.bool false) rfl) ?_
 refine WL_nil (nm_then ?_)
 cases hz
 exact W_ret (rt_blk (rt_then (rt_then (rt_blk (rt_then (R_t1 rfl rfl ⟨rfl, (St.dropB (St.dropB hS hb6) hb4).kept⟩))))))
 replace hz := bif_ok_f hz hc33
 refine W_skip (nm_blk ?_)
 refine (nm_then ?_)
 refine W_reg <|WL_y (Y_add hT9_6 rfl) <|WL_y (Y_move (.int .i64 (IntKind.wrap .i64 (y10 + 1))) rfl) ?_
 refine WL_nil (nm_then ?_)
 exact ⟨M8, (IntKind.wrap .i64 (y10 + 1)), hF13, hS, hT9_2, hT9_3, rfl, (by rw [← hrec11]; exact hz)⟩
 replace hz := bif_ok_f hz hc15
 refine W_exit <|ex_then <|ex_then <|ex_hit ?_
 refine (nm_then ?_)
 refine W_seqJ (fun T' w' => ∃ M35 c37, Mm.ext w.heap.size noX M8 M35 ∧ St w noX M35 [.box b6 cx2 48, .box b4 cx1 48] w' ∧ T' 4 = .bool c37 ∧ sameNode_j1 c37 = some r) ?_ ?_
 have hF39 := Mm.ext.refl w.heap.size noX M8
 refine W_reg <|WL_y (Y_fa fa48_1 hT9_2) ?_
 obtain ⟨v40, ev40, hv40⟩ := (GNode.p1 (rep_root (k := 201) rfl hcx1))
 refine WL_y (Y_ld1 v40 ts27 rfl (hS.bvB 1 rfl) ev40) <|WL_y (Y_fa fa48_1 hT9_3) ?_
 obtain ⟨v41, ev41, hv41⟩ := (GNode.p1 (rep_root (k := 201) rfl hcx2))
 refine WL_y (Y_ld1 v41 ts27 rfl (hS.bvB 0 rfl) ev41) ?_
 obtain ⟨r44, hr43, hz⟩ := bind_ok hz
 replace hr43 := Option.some.inj hr43
 refine WL_c (O_val (vs := [v40, v41]) (v := .bool r44) cb36 (args2 rfl rfl) hS (hr43 ▸ (c_sameNumbers hS.agree hv40 hv41)) ?_)
 intro w42 hS
 refine WL_y (Y_move (.bool r44) rfl) ?_
 rcases ic hz with ⟨hc45, hz⟩ | ⟨hc45, hz⟩ <;> rw [hc45]
 refine WL_gy rfl rfl (Y_fa fa48_2 hT9_2) ?_
 have ha46 := (GNode.p2 (rep_root (k := 201) rfl hcx1))
 refine WL_gy rfl rfl (Y_ldn ta46 rfl (hS.bvB 1 rfl) (Rep.len ha46)) <|WL_gy rfl rfl (Y_fa fa48_2 hT9_3) ?_
 have ha47 := (GNode.p2 (rep_root (k := 201) rfl hcx2))
 refine WL_gy rfl rfl (Y_ldn ta46 rfl (hS.bvB 0 rfl) (Rep.len ha47)) <|WL_gy rfl rfl (Y_eqA rfl rfl eg46 ha46 ha47) <|WL_d 2 rfl ?_
 refine WL_nil (nm_then ?_)
 exact ⟨M8, (decide (x1.values = x2.values)), hF39, hS, rfl, hz⟩
 refine WL_d 7 rfl ?_
 refine WL_nil (nm_then ?_)
 exact ⟨M8, false, hF39, hS, rfl, hz⟩
 rintro T36 w34 ⟨M35, c37, hx38, hS, hT36_4, hz⟩
 replace hcx1 := Rep.mono hx38.1 hcx1
 replace hcx2 := Rep.mono hx38.1 hcx2
 replace hE := Mm.ext.trans hE hx38
 replace hF13 := Mm.ext.trans hF13 hx38
 rw [sameNode_j1] at hz
 cases hz
 exact W_ret (R_t1 rfl hT36_4 ⟨rfl, (St.dropB (St.dropB hS hb6) hb4).kept⟩)
def copyNode_l1 : Nat → GNode → Int → Option GNode
 | 0, _, _ => none
 | n + 1, d19, y21 =>
 (bif decide (y21 < 32) then
 (inR y21 32).bind fun _ =>
 (idxV d19.entries y21).bind fun x32 =>
 (idxV d19.entries y21).bind fun x35 =>
 (idxV d19.entries y21).bind fun x38 =>
 (app ([] : List GOp) x32.ops).bind fun l44 =>
 (app ([] : List Int) x35.first).bind fun l49 =>
 (app ([] : List Int) x38.deps).bind fun l54 =>
 (idxV d19.entries y21).bind fun x58 =>
 (setV d19.entries y21 ({ x58 with ops := l44 })).bind fun a61 =>
 (some ({ d19 with entries := a61 } : GNode)).bind fun d63 =>
 (idxV d63.entries y21).bind fun x67 =>
 (setV d63.entries y21 ({ x67 with first := l49 })).bind fun a70 =>
 (some ({ d63 with entries := a70 } : GNode)).bind fun d72 =>
 (idxV d72.entries y21).bind fun x76 =>
 (setV d72.entries y21 ({ x76 with deps := l54 })).bind fun a79 =>
 (some ({ d72 with entries := a79 } : GNode)).bind fun d81 =>
 (idxV d81.entries y21).bind fun x86 =>
 (idxV d81.entries y21).bind fun x89 =>
 (app ([] : List Int) x86.at_).bind fun l95 =>
 (app ([] : List Int) x89.values).bind fun l100 =>
 (idxV d81.entries y21).bind fun x104 =>
 (setV d81.entries y21 ({ x104 with at_ := l95 })).bind fun a107 =>
 (some ({ d81 with entries := a107 } : GNode)).bind fun d109 =>
 (idxV d109.entries y21).bind fun x113 =>
 (setV d109.entries y21 ({ x113 with values := l100 })).bind fun a116 =>
 (some ({ d109 with entries := a116 } : GNode)).bind fun d118 =>
 (copyNode_l1 n) d118 (IntKind.wrap .i64 (y21 + 1))
 else
 (some d19).bind fun d124 =>
 some d124)
def copyNodeD (fu : Nat) (x1 : GNode) : Option GNode :=
 (app ([] : List Int) x1.order).bind fun l10 =>
 (some ({ x1 with order := l10 } : GNode)).bind fun d13 =>
 copyNode_l1 fu d13 0
set_option maxRecDepth 100000 in
set_option maxHeartbeats 4000000 in
theorem copyNode_ok {M : Mm} {w : World} {cx1 : List Value} {x1 : GNode} {fu : Nat} {r : GNode} (hA : Agree M w) (hcx1 : rep M cx1 x1) (hz : copyNodeD fu x1 = some r) :
    Calls Try.prog 15 #[.agg cx1.toArray] w (GivesL M w [] (fun M' u L' => ∃ c0 uR, u = .agg c0.toArray ∧ L' = [.row uR 3 1] ∧ rep M' c0 r ∧ sl c0 192 1 = [uR])) := by
 refine calls_W Try.func15 rfl 57 rfl rfl (by kernel_rfl) fun T hT => ?_
 have hT_0 : T 0 = .agg cx1.toArray := hT 0
 clear hT
 have hE := Mm.ext.refl w.heap.size (lentX []) M
 have hS : St w (lentX []) M [] w := St.start hA
 rw [copyNodeD] at hz
 refine W_seq <|W_reg ?_
 refine WL_c (O_box (v := .agg cx1.toArray) (cs := cx1) hT_0 rfl hS ?_)
 intro b3 w2 hb3 hS
 replace hS : St w (lentX []) M [.box b3 cx1 48] w2 := hS
 refine WL_c (O_alloc tz48 hS ?_)
 intro b5 w4 hb5 hS
 replace hS : St w (lentX []) M [.box b5 (Zr.zc GNode) 48, .box b3 cx1 48] w4 := hS
 have zb5 : rep M (Zr.zc GNode) (Zr.zd : GNode) := Zr.zr
 refine WL_nil (nm_then ?_)
 refine W_seq <|W_reg <|WL_y (Y_fa fa48_1 rfl) ?_
 obtain ⟨v6, ev6, hv6⟩ := (GNode.p1 (rep_root (k := 201) rfl hcx1))
 refine WL_y (Y_ld1 v6 ts27 rfl (hS.bvB 1 rfl) ev6) ?_
 replace hS := hS.nilRow 3 1
 replace hS : St w (lentX []) M [.row (.slice none 0 0) 3 1, .box b5 (Zr.zc GNode) 48, .box b3 cx1 48] w4 := hS
 obtain ⟨l10, hr9, hz⟩ := bind_ok hz
 obtain ⟨hy9, hs9⟩ := app_some hr9
 refine WL_c (O_app (α := Int) (j := 0) tp27 hS rfl rfl rfl (repL_nil _) hv6 hy9 ?_)
 intro v9 M9 w7 hx9 hv9 hS
 rw [← hs9] at hv9
 clear hr9 hs9
 replace hcx1 := Rep.mono hx9.1 hcx1
 replace zb5 := Rep.mono hx9.1 zb5
 replace hv6 := repL.mono hx9.1 hv6
 replace hE := Mm.ext.trans hE hx9
 replace hS : St w (lentX []) M9 [.row v9 3 1, .box b5 (Zr.zc GNode) 48, .box b3 cx1 48] w7 := hS
 refine WL_y (Y_fa fa48_1 rfl) ?_
 have hw12 : ([v9] : List Value).length = 1 := Rep.len (repL_rep hv9)
 have hl12 : (cx1).length = 201 := Rep.len hcx1
 obtain ⟨d13, hd12, hz⟩ := bind_ok hz
 have hb12 : rep M9 (pt cx1 (0 + 192) [v9]) d13 := rep_eq (rep_whole (k := 201) (by rw [pt_length (by omega)]; exact hl12) (GNode.s1 (rep_root (k := 201) rfl hcx1) (rep_leaf rfl (repL_rep hv9) (by omega)) (by omega) (by omega) (by omega))) hd12
 have hp14 : sl (pt cx1 (0 + 192) [v9]) (0 + 192) 1 = [v9] := sl_pt_same (by omega) rfl
 generalize hg12 : (pt cx1 (0 + 192) [v9]) = cs12 at hb12 hp14
 refine WL_c (O_st (j := 2) (v := v9) (ws := [v9]) hS rfl (by kernel_rfl) rfl rfl (repL_cells hv9) hw12 (Rep.one (repL_rep hv9)) (by omega) ?_)
 rw [hg12]
 clear hg12
 intro w11 hS
 replace hS : St w (lentX []) M9 [.row v9 3 1, .box b5 (Zr.zc GNode) 48, .box b3 cs12 48] w11 := hS
 refine WL_nil (nm_then ?_)
 refine W_seq <|W_seq <|W_reg <|WL_y (Y_move (.int .i64 0) rfl) ?_
 refine WL_nil (nm_then ?_)
 refine W_block ?_
 refine W_loop (fun k23 T' w' => ∃ M16 cs18 d19 y21, Mm.ext w.heap.size (lentX []) M9 M16 ∧ St w (lentX []) M16 [.row v9 3 1, .box b5 (Zr.zc GNode) 48, .box b3 cs18 48] w' ∧ rep M16 cs18 d19 ∧ sl cs18 (0 + 192) 1 = [v9] ∧ T' 1 = .pointer (some ⟨b3, 0, none⟩) ∧ T' 2 = .pointer (some ⟨b5, 0, none⟩) ∧ T' 9 = .int .i64 y21 ∧ copyNode_l1 k23 d19 y21 = some r) fu ?_ ?_ ?_
 exact ⟨M9, cs12, d13, (0 : Int), (Mm.ext.refl _ _ _), hS, hb12, hp14, rfl, rfl, rfl, hz⟩
 rintro T' w' ⟨_, _, _, _, _, _, _, _, _, _, _, hz⟩
 rw [copyNode_l1] at hz
 cases hz
 intro k23
 rintro T17 w15 ⟨M16, cs18, d19, y21, hx25, hS, hb18, hp20, hT17_1, hT17_2, hT17_9, hz⟩
 replace zb5 := Rep.mono hx25.1 zb5
 replace hE := Mm.ext.trans hE hx25
 have hF24 := hx25
 rw [copyNode_l1] at hz
 obtain ⟨rec22, hrec22⟩ : ∃ f, f = copyNode_l1 k23 := ⟨_, rfl⟩
 rw [← hrec22] at hz
 refine W_seq <|W_reg <|WL_y (Y_lss hT17_9 rfl) ?_
 refine WL_nil (nm_then ?_)
 refine W_seq ?_
 refine W_cond rfl (fun hc26 => ?_) (fun hc26 => ?_)
 replace hz := bif_ok_t hz hc26
 refine W_skip (nm_then ?_)
 refine W_seq <|W_block <|W_seq <|W_reg <|WL_y (Y_move (.int .i64 y21) hT17_9) <|WL_y (Y_assign (.int .i64 y21) rfl) ?_
 refine WL_nil (nm_then ?_)
 refine W_seq <|W_reg <|WL_y (Y_move (.int .i64 y21) rfl) <|WL_y (Y_fa fa48_0 hT17_1) ?_
 obtain ⟨u27, hx28, hz⟩ := bind_ok hz
 obtain ⟨hx28a, hx28b⟩ := inR_some hx28
 refine WL_y (Y_ixA ia45 rfl rfl hx28a hx28b) <|WL_y (Y_assign (.pointer (some ⟨b3, 0 + 0 + Int.toNat y21 * 6, none⟩)) rfl) ?_
 refine WL_nil (nm_then ?_)
 refine W_seq <|W_drawB (Rd M16 [.box b3 cs18 48]) (inL [20, 23, 26]) mixed hS fun w29 hS => ?_
 have hG30 := Mm.ext.refl w.heap.size (lentX []) M16
 have hR31 : Rd M16 [.box b3 cs18 48] w29 := Rd.of hS hG30 (by simp)
 refine WB_y (i := 0) rfl (by kernel_rfl) rfl (Y_move (.pointer (some ⟨b3, 0 + 0 + Int.toNat y21 * 6, none⟩)) rfl) (fun _ => hR31) <|WB_y (i := 1) rfl (by kernel_rfl) rfl (Y_move (.pointer (some ⟨b3, 0 + 0 + Int.toNat y21 * 6, none⟩)) rfl) (fun _ => hR31) <|WB_y (i := 2) rfl (by kernel_rfl) rfl (Y_move (.pointer (some ⟨b3, 0 + 0 + Int.toNat y21 * 6, none⟩)) rfl) (fun _ => hR31) <|WB_y (i := 3) rfl (by kernel_rfl) rfl (Y_move (.pointer (some ⟨b3, 0 + 0 + Int.toNat y21 * 6, none⟩)) rfl) (fun _ => hR31) <|WB_y (i := 4) rfl (by kernel_rfl) rfl (Y_nil rfl) (fun _ => hR31) <|WB_y (i := 5) rfl (by kernel_rfl) rfl (Y_fa fa44_1 rfl) (fun _ => hR31) ?_
 obtain ⟨x32, hx33, hz⟩ := bind_ok hz
 obtain ⟨v34, ev34, hv34⟩ := (GEntry.p1 (vp (k := 6) rfl rfl (GNode.p0 (rep_root (k := 201) rfl hb18)) hx33))
 refine WB_ld (i := 6) rfl (by kernel_rfl) rfl (inL_lt rfl) (by kernel_rfl) (by kernel_rfl) (Y_ld1 v34 ts22 rfl (bvR 0 rfl) ev34) hR31 <|WB_y (i := 8) rfl (by kernel_rfl) rfl (Y_move (.pointer (some ⟨b3, 0 + 0 + Int.toNat y21 * 6, none⟩)) rfl) (fun _ => hR31) <|WB_y (i := 9) rfl (by kernel_rfl) rfl (Y_nil rfl) (fun _ => hR31) <|WB_y (i := 10) rfl (by kernel_rfl) rfl (Y_fa fa44_2 rfl) (fun _ => hR31) ?_
 obtain ⟨x35, hx36, hz⟩ := bind_ok hz
 obtain ⟨v37, ev37, hv37⟩ := (GEntry.p2 (vp (k := 6) rfl rfl (GNode.p0 (rep_root (k := 201) rfl hb18)) hx36))
 refine WB_ld (i := 11) rfl (by kernel_rfl) rfl (inL_lt rfl) (by kernel_rfl) (by kernel_rfl) (Y_ld1 v37 ts27 rfl (bvR 0 rfl) ev37) hR31 <|WB_y (i := 13) rfl (by kernel_rfl) rfl (Y_move (.pointer (some ⟨b3, 0 + 0 + Int.toNat y21 * 6, none⟩)) rfl) (fun _ => hR31) <|WB_y (i := 14) rfl (by kernel_rfl) rfl (Y_nil rfl) (fun _ => hR31) <|WB_y (i := 15) rfl (by kernel_rfl) rfl (Y_fa fa44_3 rfl) (fun _ => hR31) ?_
 obtain ⟨x38, hx39, hz⟩ := bind_ok hz
 obtain ⟨v40, ev40, hv40⟩ := (GEntry.p3 (vp (k := 6) rfl rfl (GNode.p0 (rep_root (k := 201) rfl hb18)) hx39))
 refine WB_ld (i := 16) rfl (by kernel_rfl) rfl (inL_lt rfl) (by kernel_rfl) (by kernel_rfl) (Y_ld1 v40 ts27 rfl (bvR 0 rfl) ev40) hR31 ?_
 replace hS := hS.nilRow 78 3
 replace hS : St w (lentX []) M16 [.row (.slice none 0 0) 78 3, .row v9 3 1, .box b5 (Zr.zc GNode) 48, .box b3 cs18 48] w29 := hS
 obtain ⟨l44, hr43, hz⟩ := bind_ok hz
 obtain ⟨hy43, hs43⟩ := app_some hr43
 refine WB_one (i := 7) (by kernel_rfl) rfl (O_app (α := GOp) (j := 0) tp22 hS rfl rfl rfl (repL_nil _) hv34 hy43 ?_)
 intro v43 M43 w41 hx43 hv43 hS
 rw [← hs43] at hv43
 clear hr43 hs43
 replace zb5 := Rep.mono hx43.1 zb5
 replace hb18 := Rep.mono hx43.1 hb18
 replace hv34 := repL.mono hx43.1 hv34
 replace hv37 := repL.mono hx43.1 hv37
 replace hv40 := repL.mono hx43.1 hv40
 replace hE := Mm.ext.trans hE hx43
 replace hF24 := Mm.ext.trans hF24 hx43
 replace hG30 := Mm.ext.trans hG30 hx43
 replace hS : St w (lentX []) M43 [.row v43 78 3, .row v9 3 1, .box b5 (Zr.zc GNode) 48, .box b3 cs18 48] w41 := hS
 have hR45 : Rd M16 [.box b3 cs18 48] w41 := Rd.of hS hG30 (by simp)
 refine ⟨fun _ => hR45, ?_⟩
 replace hS := hS.nilRow 3 1
 replace hS : St w (lentX []) M43 [.row (.slice none 0 0) 3 1, .row v43 78 3, .row v9 3 1, .box b5 (Zr.zc GNode) 48, .box b3 cs18 48] w41 := hS
 obtain ⟨l49, hr48, hz⟩ := bind_ok hz
 obtain ⟨hy48, hs48⟩ := app_some hr48
 refine WB_one (i := 12) (by kernel_rfl) rfl (O_app (α := Int) (j := 0) tp27 hS rfl rfl rfl (repL_nil _) hv37 hy48 ?_)
 intro v48 M48 w46 hx48 hv48 hS
 rw [← hs48] at hv48
 clear hr48 hs48
 replace zb5 := Rep.mono hx48.1 zb5
 replace hb18 := Rep.mono hx48.1 hb18
 replace hv34 := repL.mono hx48.1 hv34
 replace hv37 := repL.mono hx48.1 hv37
 replace hv40 := repL.mono hx48.1 hv40
 replace hv43 := repL.mono hx48.1 hv43
 replace hE := Mm.ext.trans hE hx48
 replace hF24 := Mm.ext.trans hF24 hx48
 replace hG30 := Mm.ext.trans hG30 hx48
 replace hS : St w (lentX []) M48 [.row v48 3 1, .row v43 78 3, .row v9 3 1, .box b5 (Zr.zc GNode) 48, .box b3 cs18 48] w46 := hS
 have hR50 : Rd M16 [.box b3 cs18 48] w46 := Rd.of hS hG30 (by simp)
 refine ⟨fun _ => hR50, ?_⟩
 replace hS := hS.nilRow 3 1
 replace hS : St w (lentX []) M48 [.row (.slice none 0 0) 3 1, .row v48 3 1, .row v43 78 3, .row v9 3 1, .box b5 (Zr.zc GNode) 48, .box b3 cs18 48] w46 := hS
 obtain ⟨l54, hr53, hz⟩ := bind_ok hz
 obtain ⟨hy53, hs53⟩ := app_some hr53
 refine WB_one (i := 17) (by kernel_rfl) rfl (O_app (α := Int) (j := 0) tp27 hS rfl rfl rfl (repL_nil _) hv40 hy53 ?_)
 intro v53 M53 w51 hx53 hv53 hS
 rw [← hs53] at hv53
 clear hr53 hs53
 replace zb5 := Rep.mono hx53.1 zb5
 replace hb18 := Rep.mono hx53.1 hb18
 replace hv34 := repL.mono hx53.1 hv34
 replace hv37 := repL.mono hx53.1 hv37
 replace hv40 := repL.mono hx53.1 hv40
 replace hv43 := repL.mono hx53.1 hv43
 replace hv48 := repL.mono hx53.1 hv48
 replace hE := Mm.ext.trans hE hx53
 replace hF24 := Mm.ext.trans hF24 hx53
 replace hG30 := Mm.ext.trans hG30 hx53
 replace hS : St w (lentX []) M53 [.row v53 3 1, .row v48 3 1, .row v43 78 3, .row v9 3 1, .box b5 (Zr.zc GNode) 48, .box b3 cs18 48] w51 := hS
 have hR55 : Rd M16 [.box b3 cs18 48] w51 := Rd.of hS hG30 (by simp)
 refine ⟨fun _ => hR55, ?_⟩
 refine WB_y (i := 18) rfl (by kernel_rfl) rfl (Y_nil rfl) (fun _ => hR55) <|WB_y (i := 19) rfl (by kernel_rfl) rfl (Y_fa fa44_1 rfl) (fun _ => hR55) ?_
 obtain ⟨x58, hx59, hz⟩ := bind_ok hz
 have hw57 : ([v43] : List Value).length = 1 := Rep.len (repL_rep hv43)
 have hl57 : (cs18).length = 201 := Rep.len hb18
 have hq60 := (idxV_some hx59)
 obtain ⟨a61, hx62, hz⟩ := bind_ok hz
 obtain ⟨d63, hd57, hz⟩ := bind_ok hz
 have hb57 : rep M53 (pt cs18 (0 + 0 + Int.toNat y21 * 6 + 1) [v43]) d63 := rep_eq (rep_whole (k := 201) (by rw [pt_length (by omega)]; exact hl57) (GNode.s0 (rep_root (k := 201) rfl hb18) (vs (k := 6) rfl rfl (GNode.p0 (rep_root (k := 201) rfl hb18)) (GEntry.s1 (vp (k := 6) rfl rfl (GNode.p0 (rep_root (k := 201) rfl hb18)) hx59) (rep_leaf rfl (repL_rep hv43) (by omega)) (by omega) (by omega) (by omega)) hx62 (by omega) (by omega) (by omega)) (by omega) (by omega) (by omega))) hd57
 have hp64 : sl (pt cs18 (0 + 0 + Int.toNat y21 * 6 + 1) [v43]) (0 + 192) 1 = [v9] := (sl_pt_apart (by omega) (by omega)).trans hp20
 generalize hg57 : (pt cs18 (0 + 0 + Int.toNat y21 * 6 + 1) [v43]) = cs57 at hb57 hp64
 refine WB_one (i := 20) (by kernel_rfl) rfl (O_st (j := 5) (v := v43) (ws := [v43]) hS rfl (by kernel_rfl) rfl rfl (repL_cells hv43) hw57 (Rep.one (repL_rep hv43)) (by omega) ?_)
 rw [hg57]
 clear hg57
 intro w56 hS
 replace hS : St w (lentX []) M53 [.row v53 3 1, .row v48 3 1, .row v43 78 3, .row v9 3 1, .box b5 (Zr.zc GNode) 48, .box b3 cs57 48] w56 := hS
 refine ⟨fun h => Bool.noConfusion (show false = true from h), ?_⟩
 refine WB_y (i := 21) rfl (by kernel_rfl) rfl (Y_nil rfl) (fun h => Bool.noConfusion (show false = true from h)) <|WB_y (i := 22) rfl (by kernel_rfl) rfl (Y_fa fa44_2 rfl) (fun h => Bool.noConfusion (show false = true from h)) ?_
 obtain ⟨x67, hx68, hz⟩ := bind_ok hz
 have hw66 : ([v48] : List Value).length = 1 := Rep.len (repL_rep hv48)
 have hl66 : (cs57).length = 201 := Rep.len hb57
 have hq69 := (idxV_some hx68)
 obtain ⟨a70, hx71, hz⟩ := bind_ok hz
 obtain ⟨d72, hd66, hz⟩ := bind_ok hz
 have hb66 : rep M53 (pt cs57 (0 + 0 + Int.toNat y21 * 6 + 2) [v48]) d72 := rep_eq (rep_whole (k := 201) (by rw [pt_length (by omega)]; exact hl66) (GNode.s0 (rep_root (k := 201) rfl hb57) (vs (k := 6) rfl rfl (GNode.p0 (rep_root (k := 201) rfl hb57)) (GEntry.s2 (vp (k := 6) rfl rfl (GNode.p0 (rep_root (k := 201) rfl hb57)) hx68) (rep_leaf rfl (repL_rep hv48) (by omega)) (by omega) (by omega) (by omega)) hx71 (by omega) (by omega) (by omega)) (by omega) (by omega) (by omega))) hd66
 have hp73 : sl (pt cs57 (0 + 0 + Int.toNat y21 * 6 + 2) [v48]) (0 + 192) 1 = [v9] := (sl_pt_apart (by omega) (by omega)).trans hp64
 generalize hg66 : (pt cs57 (0 + 0 + Int.toNat y21 * 6 + 2) [v48]) = cs66 at hb66 hp73
 refine WB_one (i := 23) (by kernel_rfl) rfl (O_st (j := 5) (v := v48) (ws := [v48]) hS rfl (by kernel_rfl) rfl rfl (repL_cells hv48) hw66 (Rep.one (repL_rep hv48)) (by omega) ?_)
 rw [hg66]
 clear hg66
 intro w65 hS
 replace hS : St w (lentX []) M53 [.row v53 3 1, .row v48 3 1, .row v43 78 3, .row v9 3 1, .box b5 (Zr.zc GNode) 48, .box b3 cs66 48] w65 := hS
 refine ⟨fun h => Bool.noConfusion (show false = true from h), ?_⟩
 refine WB_y (i := 24) rfl (by kernel_rfl) rfl (Y_nil rfl) (fun h => Bool.noConfusion (show false = true from h)) <|WB_y (i := 25) rfl (by kernel_rfl) rfl (Y_fa fa44_3 rfl) (fun h => Bool.noConfusion (show false = true from h)) ?_
 obtain ⟨x76, hx77, hz⟩ := bind_ok hz
 have hw75 : ([v53] : List Value).length = 1 := Rep.len (repL_rep hv53)
 have hl75 : (cs66).length = 201 := Rep.len hb66
 have hq78 := (idxV_some hx77)
 obtain ⟨a79, hx80, hz⟩ := bind_ok hz
 obtain ⟨d81, hd75, hz⟩ := bind_ok hz
 have hb75 : rep M53 (pt cs66 (0 + 0 + Int.toNat y21 * 6 + 3) [v53]) d81 := rep_eq (rep_whole (k := 201) (by rw [pt_length (by omega)]; exact hl75) (GNode.s0 (rep_root (k := 201) rfl hb66) (vs (k := 6) rfl rfl (GNode.p0 (rep_root (k := 201) rfl hb66)) (GEntry.s3 (vp (k := 6) rfl rfl (GNode.p0 (rep_root (k := 201) rfl hb66)) hx77) (rep_leaf rfl (repL_rep hv53) (by omega)) (by omega) (by omega) (by omega)) hx80 (by omega) (by omega) (by omega)) (by omega) (by omega) (by omega))) hd75
 have hp82 : sl (pt cs66 (0 + 0 + Int.toNat y21 * 6 + 3) [v53]) (0 + 192) 1 = [v9] := (sl_pt_apart (by omega) (by omega)).trans hp73
 generalize hg75 : (pt cs66 (0 + 0 + Int.toNat y21 * 6 + 3) [v53]) = cs75 at hb75 hp82
 refine WB_one (i := 26) (by kernel_rfl) rfl (O_st (j := 5) (v := v53) (ws := [v53]) hS rfl (by kernel_rfl) rfl rfl (repL_cells hv53) hw75 (Rep.one (repL_rep hv53)) (by omega) ?_)
 rw [hg75]
 clear hg75
 intro w74 hS
 replace hS : St w (lentX []) M53 [.row v53 3 1, .row v48 3 1, .row v43 78 3, .row v9 3 1, .box b5 (Zr.zc GNode) 48, .box b3 cs75 48] w74 := hS
 refine ⟨fun h => Bool.noConfusion (show false = true from h), ?_⟩
 refine WB_done (by kernel_rfl) (nm_then ?_)
 refine W_drawB (Rd M53 [.box b3 cs75 48]) (inL [14, 17]) mixed hS fun w83 hS => ?_
 have hG84 := Mm.ext.refl w.heap.size (lentX []) M53
 have hR85 : Rd M53 [.box b3 cs75 48] w83 := Rd.of hS hG84 (by simp)
 refine WB_y (i := 0) rfl (by kernel_rfl) rfl (Y_move (.pointer (some ⟨b3, 0 + 0 + Int.toNat y21 * 6, none⟩)) rfl) (fun _ => hR85) <|WB_y (i := 1) rfl (by kernel_rfl) rfl (Y_move (.pointer (some ⟨b3, 0 + 0 + Int.toNat y21 * 6, none⟩)) rfl) (fun _ => hR85) <|WB_y (i := 2) rfl (by kernel_rfl) rfl (Y_move (.pointer (some ⟨b3, 0 + 0 + Int.toNat y21 * 6, none⟩)) rfl) (fun _ => hR85) <|WB_y (i := 3) rfl (by kernel_rfl) rfl (Y_nil rfl) (fun _ => hR85) <|WB_y (i := 4) rfl (by kernel_rfl) rfl (Y_fa fa44_4 rfl) (fun _ => hR85) ?_
 obtain ⟨x86, hx87, hz⟩ := bind_ok hz
 obtain ⟨v88, ev88, hv88⟩ := (GEntry.p4 (vp (k := 6) rfl rfl (GNode.p0 (rep_root (k := 201) rfl hb75)) hx87))
 refine WB_ld (i := 5) rfl (by kernel_rfl) rfl (inL_lt rfl) (by kernel_rfl) (by kernel_rfl) (Y_ld1 v88 ts27 rfl (bvR 0 rfl) ev88) hR85 <|WB_y (i := 7) rfl (by kernel_rfl) rfl (Y_move (.pointer (some ⟨b3, 0 + 0 + Int.toNat y21 * 6, none⟩)) rfl) (fun _ => hR85) <|WB_y (i := 8) rfl (by kernel_rfl) rfl (Y_nil rfl) (fun _ => hR85) <|WB_y (i := 9) rfl (by kernel_rfl) rfl (Y_fa fa44_5 rfl) (fun _ => hR85) ?_
 obtain ⟨x89, hx90, hz⟩ := bind_ok hz
 obtain ⟨v91, ev91, hv91⟩ := (GEntry.p5 (vp (k := 6) rfl rfl (GNode.p0 (rep_root (k := 201) rfl hb75)) hx90))
 refine WB_ld (i := 10) rfl (by kernel_rfl) rfl (inL_lt rfl) (by kernel_rfl) (by kernel_rfl) (Y_ld1 v91 ts27 rfl (bvR 0 rfl) ev91) hR85 ?_
 replace hS := hS.nilRow 3 1
 replace hS : St w (lentX []) M53 [.row (.slice none 0 0) 3 1, .row v53 3 1, .row v48 3 1, .row v43 78 3, .row v9 3 1, .box b5 (Zr.zc GNode) 48, .box b3 cs75 48] w83 := hS
 obtain ⟨l95, hr94, hz⟩ := bind_ok hz
 obtain ⟨hy94, hs94⟩ := app_some hr94
 refine WB_one (i := 6) (by kernel_rfl) rfl (O_app (α := Int) (j := 0) tp27 hS rfl rfl rfl (repL_nil _) hv88 hy94 ?_)
 intro v94 M94 w92 hx94 hv94 hS
 rw [← hs94] at hv94
 clear hr94 hs94
 replace zb5 := Rep.mono hx94.1 zb5
 replace hb75 := Rep.mono hx94.1 hb75
 replace hv88 := repL.mono hx94.1 hv88
 replace hv91 := repL.mono hx94.1 hv91
 replace hE := Mm.ext.trans hE hx94
 replace hF24 := Mm.ext.trans hF24 hx94
 replace hG84 := Mm.ext.trans hG84 hx94
 replace hS : St w (lentX []) M94 [.row v94 3 1, .row v53 3 1, .row v48 3 1, .row v43 78 3, .row v9 3 1, .box b5 (Zr.zc GNode) 48, .box b3 cs75 48] w92 := hS
 have hR96 : Rd M53 [.box b3 cs75 48] w92 := Rd.of hS hG84 (by simp)
 refine ⟨fun _ => hR96, ?_⟩
 replace hS := hS.nilRow 3 1
 replace hS : St w (lentX []) M94 [.row (.slice none 0 0) 3 1, .row v94 3 1, .row v53 3 1, .row v48 3 1, .row v43 78 3, .row v9 3 1, .box b5 (Zr.zc GNode) 48, .box b3 cs75 48] w92 := hS
 obtain ⟨l100, hr99, hz⟩ := bind_ok hz
 obtain ⟨hy99, hs99⟩ := app_some hr99
 refine WB_one (i := 11) (by kernel_rfl) rfl (O_app (α := Int) (j := 0) tp27 hS rfl rfl rfl (repL_nil _) hv91 hy99 ?_)
 intro v99 M99 w97 hx99 hv99 hS
 rw [← hs99] at hv99
 clear hr99 hs99
 replace zb5 := Rep.mono hx99.1 zb5
 replace hb75 := Rep.mono hx99.1 hb75
 replace hv88 := repL.mono hx99.1 hv88
 replace hv91 := repL.mono hx99.1 hv91
 replace hv94 := repL.mono hx99.1 hv94
 replace hE := Mm.ext.trans hE hx99
 replace hF24 := Mm.ext.trans hF24 hx99
 replace hG84 := Mm.ext.trans hG84 hx99
 replace hS : St w (lentX []) M99 [.row v99 3 1, .row v94 3 1, .row v53 3 1, .row v48 3 1, .row v43 78 3, .row v9 3 1, .box b5 (Zr.zc GNode) 48, .box b3 cs75 48] w97 := hS
 have hR101 : Rd M53 [.box b3 cs75 48] w97 := Rd.of hS hG84 (by simp)
 refine ⟨fun _ => hR101, ?_⟩
 refine WB_y (i := 12) rfl (by kernel_rfl) rfl (Y_nil rfl) (fun _ => hR101) <|WB_y (i := 13) rfl (by kernel_rfl) rfl (Y_fa fa44_4 rfl) (fun _ => hR101) ?_
 obtain ⟨x104, hx105, hz⟩ := bind_ok hz
 have hw103 : ([v94] : List Value).length = 1 := Rep.len (repL_rep hv94)
 have hl103 : (cs75).length = 201 := Rep.len hb75
 have hq106 := (idxV_some hx105)
 obtain ⟨a107, hx108, hz⟩ := bind_ok hz
 obtain ⟨d109, hd103, hz⟩ := bind_ok hz
 have hb103 : rep M99 (pt cs75 (0 + 0 + Int.toNat y21 * 6 + 4) [v94]) d109 := rep_eq (rep_whole (k := 201) (by rw [pt_length (by omega)]; exact hl103) (GNode.s0 (rep_root (k := 201) rfl hb75) (vs (k := 6) rfl rfl (GNode.p0 (rep_root (k := 201) rfl hb75)) (GEntry.s4 (vp (k := 6) rfl rfl (GNode.p0 (rep_root (k := 201) rfl hb75)) hx105) (rep_leaf rfl (repL_rep hv94) (by omega)) (by omega) (by omega) (by omega)) hx108 (by omega) (by omega) (by omega)) (by omega) (by omega) (by omega))) hd103
 have hp110 : sl (pt cs75 (0 + 0 + Int.toNat y21 * 6 + 4) [v94]) (0 + 192) 1 = [v9] := (sl_pt_apart (by omega) (by omega)).trans hp82
 generalize hg103 : (pt cs75 (0 + 0 + Int.toNat y21 * 6 + 4) [v94]) = cs103 at hb103 hp110
 refine WB_one (i := 14) (by kernel_rfl) rfl (O_st (j := 7) (v := v94) (ws := [v94]) hS rfl (by kernel_rfl) rfl rfl (repL_cells hv94) hw103 (Rep.one (repL_rep hv94)) (by omega) ?_)
 rw [hg103]
 clear hg103
 intro w102 hS
 replace hS : St w (lentX []) M99 [.row v99 3 1, .row v94 3 1, .row v53 3 1, .row v48 3 1, .row v43 78 3, .row v9 3 1, .box b5 (Zr.zc GNode) 48, .box b3 cs103 48] w102 := hS
 refine ⟨fun h => Bool.noConfusion (show false = true from h), ?_⟩
 refine WB_y (i := 15) rfl (by kernel_rfl) rfl (Y_nil rfl) (fun h => Bool.noConfusion (show false = true from h)) <|WB_y (i := 16) rfl (by kernel_rfl) rfl (Y_fa fa44_5 rfl) (fun h => Bool.noConfusion (show false = true from h)) ?_
 obtain ⟨x113, hx114, hz⟩ := bind_ok hz
 have hw112 : ([v99] : List Value).length = 1 := Rep.len (repL_rep hv99)
 have hl112 : (cs103).length = 201 := Rep.len hb103
 have hq115 := (idxV_some hx114)
 obtain ⟨a116, hx117, hz⟩ := bind_ok hz
 obtain ⟨d118, hd112, hz⟩ := bind_ok hz
 have hb112 : rep M99 (pt cs103 (0 + 0 + Int.toNat y21 * 6 + 5) [v99]) d118 := rep_eq (rep_whole (k := 201) (by rw [pt_length (by omega)]; exact hl112) (GNode.s0 (rep_root (k := 201) rfl hb103) (vs (k := 6) rfl rfl (GNode.p0 (rep_root (k := 201) rfl hb103)) (GEntry.s5 (vp (k := 6) rfl rfl (GNode.p0 (rep_root (k := 201) rfl hb103)) hx114) (rep_leaf rfl (repL_rep hv99) (by omega)) (by omega) (by omega) (by omega)) hx117 (by omega) (by omega) (by omega)) (by omega) (by omega) (by omega))) hd112
 have hp119 : sl (pt cs103 (0 + 0 + Int.toNat y21 * 6 + 5) [v99]) (0 + 192) 1 = [v9] := (sl_pt_apart (by omega) (by omega)).trans hp110
 generalize hg112 : (pt cs103 (0 + 0 + Int.toNat y21 * 6 + 5) [v99]) = cs112 at hb112 hp119
 refine WB_one (i := 17) (by kernel_rfl) rfl (O_st (j := 7) (v := v99) (ws := [v99]) hS rfl (by kernel_rfl) rfl rfl (repL_cells hv99) hw112 (Rep.one (repL_rep hv99)) (by omega) ?_)
 rw [hg112]
 clear hg112
 intro w111 hS
 replace hS : St w (lentX []) M99 [.row v99 3 1, .row v94 3 1, .row v53 3 1, .row v48 3 1, .row v43 78 3, .row v9 3 1, .box b5 (Zr.zc GNode) 48, .box b3 cs112 48] w111 := hS
 refine ⟨fun h => Bool.noConfusion (show false = true from h), ?_⟩
 refine WB_done (by kernel_rfl) (nm_blk ?_)
 refine (nm_then ?_)
 refine W_reg <|WL_y (Y_add hT17_9 rfl) <|WL_y (Y_move (.int .i64 (IntKind.wrap .i64 (y21 + 1))) rfl) ?_
 refine WL_nil (nm_then ?_)
 exact ⟨M99, cs112, d118, (IntKind.wrap .i64 (y21 + 1)), hF24, (St.drop (St.drop (St.drop (St.drop (St.drop hS))))), hb112, hp119, hT17_1, hT17_2, rfl, (by rw [← hrec22]; exact hz)⟩
 replace hz := bif_ok_f hz hc26
 refine W_exit <|ex_then <|ex_then <|ex_hit ?_
 refine (nm_then ?_)
 refine W_seq <|W_reg ?_
 have ha120 := (rep_root (k := 201) rfl hb18)
 have hp121 : sl (sl cs18 (0) 201) 192 1 = [v9] := (sl_sub (by decide)).trans hp20
 refine WL_y (Y_ldn ta48 hT17_1 (hS.bvB 2 rfl) (Rep.len ha120)) ?_
 have hw123 : ((sl cs18 (0) 201) : List Value).length = 201 := Rep.len ha120
 have hl123 : ((Zr.zc GNode)).length = 201 := Rep.len zb5
 obtain ⟨d124, hd123, hz⟩ := bind_ok hz
 have hb123 : rep M16 (pt (Zr.zc GNode) (0) (sl cs18 (0) 201)) d124 := rep_eq (rep_whole (k := 201) (by rw [pt_length (by omega)]; exact hl123) (rep_leaf rfl ha120 (by omega))) hd123
 have hp125 : sl (pt (Zr.zc GNode) (0) (sl cs18 (0) 201)) (0 + 192) 1 = [v9] := (sl_pt_sub (by omega) (by omega)).trans hp121
 generalize hg123 : (pt (Zr.zc GNode) (0) (sl cs18 (0) 201)) = cs123 at hb123 hp125
 refine WL_c (O_st (j := 1) (v := .agg (sl cs18 (0) 201).toArray) (ws := (sl cs18 (0) 201)) hS rfl (by kernel_rfl) hT17_2 rfl rfl hw123 (Rep.one ha120) (by omega) ?_)
 rw [hg123]
 clear hg123
 intro w122 hS
 replace hS : St w (lentX []) M16 [.row v9 3 1, .box b5 cs123 48, .box b3 cs18 48] w122 := hS
 refine WL_nil (nm_then ?_)
 cases hz
 exact W_ret (R_c (j := 1) rfl hT17_2 (by rw [Rep.len hb123]; exact ta48) hS rfl ⟨_, M16, _, rfl, hE, (hS.sel (H' := [.row v9 3 1]) [0] (by decide) rfl), cs123, v9, rfl, rfl, hb123, hp125⟩)
def isNode_j1 (y8 : Int) (rec9 : Int → Option Bool) : Option Bool :=
 rec9 (IntKind.wrap .i64 (y8 + 1))
def isNode_j2 (y32 : Int) (rec33 : Int → Int → Option Bool) (y41 : Int) : Option Bool :=
 rec33 y41 (IntKind.wrap .i64 (y32 + 1))
def isNode_j6 (y73 : Int) (rec74 : Int → Int → Option Bool) (y82 : Int) : Option Bool :=
 rec74 y82 (IntKind.wrap .i64 (y73 + 1))
def isNode_j7 (y73 : Int) (rec74 : Int → Int → Option Bool) (x86 : Int) : Option Bool :=
 isNode_j6 y73 rec74 x86
def isNode_j8 (y73 : Int) (rec74 : Int → Int → Option Bool) (x86 : Int) (c95 : Bool) : Option Bool :=
 (bif c95 then
 some false
 else
 isNode_j7 y73 rec74 x86)
def isNode_l3 (y8 : Int) (rec9 : Int → Option Bool) (d25 : GEntry) : Nat → Int → Int → Option Bool
 | 0, _, _ => none
 | n + 1, y72, y73 =>
 (bif decide (y73 < (d25.at_.length : Int)) then
 (idx d25.at_ y73).bind fun x86 =>
 (bif decide (x86 ≤ y72) then
 isNode_j8 y73 (isNode_l3 y8 rec9 d25 n) x86 true
 else
 isNode_j8 y73 (isNode_l3 y8 rec9 d25 n) x86 (decide (x86 ≥ (d25.ops.length : Int))))
 else
 isNode_j1 y8 rec9)
def isNode_j5 (fu : Nat) (y8 : Int) (rec9 : Int → Option Bool) (d25 : GEntry) : Option Bool :=
 isNode_l3 y8 rec9 d25 fu (-1) 0
def isNode_j9 (fu : Nat) (y8 : Int) (rec9 : Int → Option Bool) (d25 : GEntry) (c106 : Bool) : Option Bool :=
 (bif c106 then
 some false
 else
 isNode_j5 fu y8 rec9 d25)
def isNode_j4 (fu : Nat) (y8 : Int) (rec9 : Int → Option Bool) (d25 : GEntry) : Option Bool :=
 (bif d25.state == 1 then
 (bif decide ((d25.deps.length : Int) > 0) then
 isNode_j9 fu y8 rec9 d25 true
 else
 (bif decide (d25.state < 3) then
 isNode_j9 fu y8 rec9 d25 (decide ((d25.at_.length : Int) > 0))
 else
 isNode_j9 fu y8 rec9 d25 false))
 else
 (bif decide (d25.state < 3) then
 isNode_j9 fu y8 rec9 d25 (decide ((d25.at_.length : Int) > 0))
 else
 isNode_j9 fu y8 rec9 d25 false))
def isNode_j10 (fu : Nat) (y8 : Int) (rec9 : Int → Option Bool) (d25 : GEntry) (c124 : Bool) : Option Bool :=
 (bif c124 then
 some false
 else
 isNode_j4 fu y8 rec9 d25)
def isNode_j3 (fu : Nat) (y8 : Int) (rec9 : Int → Option Bool) (d25 : GEntry) : Option Bool :=
 (bif d25.state == 0 then
 (some ({ state := Zr.zd, ops := Zr.zd, first := Zr.zd, deps := Zr.zd, at_ := Zr.zd, values := Zr.zd } : GEntry)).bind fun d54 =>
 (sameEntryD fu d25 d54).bind fun r57 =>
 (bif !r57 then
 some false
 else
 isNode_j1 y8 rec9)
 else
 (some (goodOpsZ d25.ops)).bind fun r131 =>
 (bif !r131 then
 isNode_j10 fu y8 rec9 d25 true
 else
 (some (risingZ d25.first)).bind fun r136 =>
 (bif !r136 then
 isNode_j10 fu y8 rec9 d25 true
 else
 (some (risingZ d25.deps)).bind fun r141 =>
 (bif !r141 then
 isNode_j10 fu y8 rec9 d25 true
 else
 (some (hasZ d25.first y8)).bind fun r146 =>
 (bif r146 then
 isNode_j10 fu y8 rec9 d25 true
 else
 (some (hasZ d25.deps y8)).bind fun r151 =>
 (bif r151 then
 isNode_j10 fu y8 rec9 d25 true
 else
 isNode_j10 fu y8 rec9 d25 ((d25.at_.length : Int) != (d25.values.length : Int))))))))
def isNode_j11 (fu : Nat) (y8 : Int) (rec9 : Int → Option Bool) (d25 : GEntry) (c161 : Bool) : Option Bool :=
 (bif c161 then
 some false
 else
 isNode_j3 fu y8 rec9 d25)
def isNode_l2 (fu : Nat) (x1 : GNode) (y8 : Int) (rec9 : Int → Option Bool) (d25 : GEntry) : Nat → Int → Int → Option Bool
 | 0, _, _ => none
 | n + 1, y31, y32 =>
 (bif decide (y32 < (x1.order.length : Int)) then
 (idx x1.order y32).bind fun x45 =>
 (bif x45 == y8 then
 isNode_j2 y32 (isNode_l2 fu x1 y8 rec9 d25 n) (IntKind.wrap .i64 (y31 + 1))
 else
 isNode_j2 y32 (isNode_l2 fu x1 y8 rec9 d25 n) y31)
 else
 (bif decide (d25.state < 0) then
 isNode_j11 fu y8 rec9 d25 true
 else
 (bif decide (d25.state > 3) then
 isNode_j11 fu y8 rec9 d25 true
 else
 (bif d25.state == 3 then
 (bif y31 != 1 then
 isNode_j11 fu y8 rec9 d25 true
 else
 (bif d25.state != 3 then
 isNode_j11 fu y8 rec9 d25 (y31 != 0)
 else
 isNode_j11 fu y8 rec9 d25 false))
 else
 (bif d25.state != 3 then
 isNode_j11 fu y8 rec9 d25 (y31 != 0)
 else
 isNode_j11 fu y8 rec9 d25 false)))))
def isNode_l4 (x1 : GNode) : Nat → Int → Option Bool
 | 0, _ => none
 | n + 1, y176 =>
 (bif decide (y176 < (x1.order.length : Int)) then
 (idx x1.order y176).bind fun x183 =>
 (some (decide (0 ≤ x183 ∧ x183 < 32))).bind fun r186 =>
 (bif !r186 then
 some false
 else
 (isNode_l4 x1 n) (IntKind.wrap .i64 (y176 + 1)))
 else
 some true)
def isNode_l1 (fu : Nat) (x1 : GNode) : Nat → Int → Option Bool
 | 0, _ => none
 | n + 1, y8 =>
 (bif decide (y8 < 32) then
 (idxV x1.entries y8).bind fun x19 =>
 (some x19).bind fun d25 =>
 isNode_l2 fu x1 y8 (isNode_l1 fu x1 n) d25 fu 0 0
 else
 isNode_l4 x1 fu 0)
def isNodeD (fu : Nat) (x1 : GNode) : Option Bool :=
 isNode_l1 fu x1 fu 0
set_option maxRecDepth 100000 in
set_option maxHeartbeats 4000000 in
theorem isNode_ok {M : Mm} {w : World} {cx1 : List Value} {x1 : GNode} {fu : Nat} {r : Bool} (hA : Agree M w) (hcx1 : rep M cx1 x1) (hz : isNodeD fu x1 = some r) :
    Calls Try.prog 22 #[.agg cx1.toArray] w (GivesV w (.bool r)) := by
 refine calls_W Try.func22 rfl 153 rfl rfl (by kernel_rfl) fun T hT => ?_
 have hT_0 : T 0 = .agg cx1.toArray := hT 0
 clear hT
 have hE := Mm.ext.refl w.heap.size noX M
 have hS : St w noX M [] w := St.start hA
 rw [isNodeD] at hz
 refine W_seq <|W_reg ?_
 refine WL_c (O_box (v := .agg cx1.toArray) (cs := cx1) hT_0 rfl hS ?_)
 intro b3 w2 hb3 hS
 replace hS : St w noX M [.box b3 cx1 48] w2 := hS
 refine WL_y (Y_assign (.bool false) rfl) ?_
 refine WL_nil (nm_then ?_)
 refine W_seq <|W_seq <|W_reg <|WL_y (Y_fa fa48_0 rfl) ?_
 have ha4 := (GNode.p0 (rep_root (k := 201) rfl hcx1))
 refine WL_y (Y_ldn ta45 rfl (hS.bvB 0 rfl) (Rep.len ha4)) <|WL_y (Y_move (.int .i64 0) rfl) ?_
 refine WL_nil (nm_then ?_)
 refine W_block ?_
 refine W_loop (fun k10 T' w' => ∃ M6 y8, Mm.ext w.heap.size noX M M6 ∧ St w noX M6 [.box b3 cx1 48] w' ∧ T' 1 = .pointer (some ⟨b3, 0, none⟩) ∧ T' 14 = .agg (sl cx1 (0 + 0) 192).toArray ∧ T' 15 = .int .i64 y8 ∧ isNode_l1 fu x1 k10 y8 = some r) fu ?_ ?_ ?_
 exact ⟨M, (0 : Int), (Mm.ext.refl _ _ _), hS, rfl, rfl, rfl, hz⟩
 rintro T' w' ⟨_, _, _, _, _, _, _, hz⟩
 rw [isNode_l1] at hz
 cases hz
 intro k10
 rintro T7 w5 ⟨M6, y8, hx12, hS, hT7_1, hT7_14, hT7_15, hz⟩
 replace hcx1 := Rep.mono hx12.1 hcx1
 replace ha4 := Rep.mono hx12.1 ha4
 replace hE := Mm.ext.trans hE hx12
 have hF11 := hx12
 rw [isNode_l1] at hz
 obtain ⟨rec9, hrec9⟩ : ∃ f, f = isNode_l1 fu x1 k10 := ⟨_, rfl⟩
 rw [← hrec9] at hz
 refine W_seq <|W_reg <|WL_y (Y_lss hT7_15 rfl) ?_
 refine WL_nil (nm_then ?_)
 refine W_seq ?_
 refine W_cond rfl (fun hc13 => ?_) (fun hc13 => ?_)
 replace hz := bif_ok_t hz hc13
 refine W_skip (nm_then ?_)
 refine W_seqJ (fun T' w' => ∃ M15, Mm.ext w.heap.size noX M6 M15 ∧ St w noX M15 [.box b3 cx1 48] w' ∧ T' 1 = .pointer (some ⟨b3, 0, none⟩) ∧ T' 14 = .agg (sl cx1 (0 + 0) 192).toArray ∧ T' 15 = .int .i64 y8 ∧ isNode_j1 y8 rec9 = some r) ?_ ?_
 have hF18 := Mm.ext.refl w.heap.size noX M6
 refine W_block <|W_seq <|W_reg <|WL_y (Y_move (.int .i64 y8) hT7_15) ?_
 obtain ⟨x19, hx20, hz⟩ := bind_ok hz
 obtain ⟨hx20a, hx20b, hx20⟩ := repV_at ha4 hx20
 replace hx20 : rep _ (sl (sl cx1 (0 + 0) 192) (Int.toNat y8 * 6) 6) x19 := hx20
 refine WL_y (Y_ixVn iv45 hT7_14 hT7_15 hx20a hx20b) ?_
 refine WL_c (O_alloc tz44 hS ?_)
 intro b22 w21 hb22 hS
 replace hS : St w noX M6 [.box b22 (Zr.zc GEntry) 44, .box b3 cx1 48] w21 := hS
 have zb22 : rep M6 (Zr.zc GEntry) (Zr.zd : GEntry) := Zr.zr
 refine WL_y (Y_assign (.int .i64 y8) rfl) ?_
 have hw24 : ((sl (sl cx1 (0 + 0) 192) (Int.toNat y8 * 6) 6) : List Value).length = 6 := Rep.len hx20
 have hl24 : ((Zr.zc GEntry)).length = 6 := Rep.len zb22
 obtain ⟨d25, hd24, hz⟩ := bind_ok hz
 have hb24 : rep M6 (pt (Zr.zc GEntry) (0) (sl (sl cx1 (0 + 0) 192) (Int.toNat y8 * 6) 6)) d25 := rep_eq (rep_whole (k := 6) (by rw [pt_length (by omega)]; exact hl24) (rep_leaf rfl hx20 (by omega))) hd24
 generalize hg24 : (pt (Zr.zc GEntry) (0) (sl (sl cx1 (0 + 0) 192) (Int.toNat y8 * 6) 6)) = cs24 at hb24
 refine WL_c (O_st (j := 0) (v := .agg (sl (sl cx1 (0 + 0) 192) (Int.toNat y8 * 6) 6).toArray) (ws := (sl (sl cx1 (0 + 0) 192) (Int.toNat y8 * 6) 6)) hS rfl (by kernel_rfl) rfl rfl rfl hw24 (Rep.one hx20) (by omega) ?_)
 rw [hg24]
 clear hg24
 intro w23 hS
 replace hS : St w noX M6 [.box b22 cs24 44, .box b3 cx1 48] w23 := hS
 refine WL_nil (nm_then ?_)
 refine W_seq <|W_reg <|WL_y (Y_assign (.int .i64 0) rfl) ?_
 refine WL_nil (nm_then ?_)
 refine W_seq <|W_seq <|W_reg <|WL_y (Y_fa fa48_1 hT7_1) ?_
 obtain ⟨v26, ev26, hv26⟩ := (GNode.p1 (rep_root (k := 201) rfl hcx1))
 refine WL_y (Y_ld1 v26 ts27 rfl (hS.bvB 1 rfl) ev26) ?_
 obtain ⟨a27, c27, hv27, _⟩ := repL_shape hv26
 refine WL_y (Y_lenL Try.underlying27 (tr2 hv27 rfl)) <|WL_y (Y_move (.int .i64 0) rfl) ?_
 refine WL_nil (nm_then ?_)
 refine W_block ?_
 refine W_loop (fun k34 T' w' => ∃ M29 y31 y32, Mm.ext w.heap.size noX M6 M29 ∧ St w noX M29 [.box b22 cs24 44, .box b3 cx1 48] w' ∧ T' 1 = .pointer (some ⟨b3, 0, none⟩) ∧ T' 3 = .int .i64 y8 ∧ T' 4 = .pointer (some ⟨b22, 0, none⟩) ∧ T' 5 = .int .i64 y31 ∧ T' 14 = .agg (sl cx1 (0 + 0) 192).toArray ∧ T' 15 = .int .i64 y8 ∧ T' 20 = v26 ∧ T' 21 = .int .i64 (x1.order.length : Int) ∧ T' 22 = .int .i64 y32 ∧ isNode_l2 fu x1 y8 rec9 d25 k34 y31 y32 = some r) fu ?_ ?_ ?_
 exact ⟨M6, (0 : Int), (0 : Int), (Mm.ext.refl _ _ _), hS, hT7_1, rfl, rfl, rfl, hT7_14, hT7_15, rfl, rfl, rfl, hz⟩
 rintro T' w' ⟨_, _, _, _, _, _, _, _, _, _, _, _, _, _, hz⟩
 rw [isNode_l2] at hz
 cases hz
 intro k34
 rintro T30 w28 ⟨M29, y31, y32, hx36, hS, hT30_1, hT30_3, hT30_4, hT30_5, hT30_14, hT30_15, hT30_20, hT30_21, hT30_22, hz⟩
 replace hcx1 := Rep.mono hx36.1 hcx1
 replace ha4 := Rep.mono hx36.1 ha4
 replace hb24 := Rep.mono hx36.1 hb24
 replace hv26 := repL.mono hx36.1 hv26
 replace hE := Mm.ext.trans hE hx36
 replace hF11 := Mm.ext.trans hF11 hx36
 replace hF18 := Mm.ext.trans hF18 hx36
 have hF35 := hx36
 rw [isNode_l2] at hz
 obtain ⟨rec33, hrec33⟩ : ∃ f, f = isNode_l2 fu x1 y8 rec9 d25 k34 := ⟨_, rfl⟩
 rw [← hrec33] at hz
 refine W_seq <|W_reg <|WL_y (Y_lss hT30_22 hT30_21) ?_
 refine WL_nil (nm_then ?_)
 refine W_seq ?_
 refine W_cond rfl (fun hc37 => ?_) (fun hc37 => ?_)
 replace hz := bif_ok_t hz hc37
 refine W_skip (nm_then ?_)
 refine W_seqJ (fun T' w' => ∃ M39 y41, Mm.ext w.heap.size noX M29 M39 ∧ St w noX M39 [.box b22 cs24 44, .box b3 cx1 48] w' ∧ T' 1 = .pointer (some ⟨b3, 0, none⟩) ∧ T' 3 = .int .i64 y8 ∧ T' 4 = .pointer (some ⟨b22, 0, none⟩) ∧ T' 5 = .int .i64 y41 ∧ T' 14 = .agg (sl cx1 (0 + 0) 192).toArray ∧ T' 15 = .int .i64 y8 ∧ T' 20 = v26 ∧ T' 21 = .int .i64 (x1.order.length : Int) ∧ T' 22 = .int .i64 y32 ∧ isNode_j2 y32 rec33 y41 = some r) ?_ ?_
 have hF43 := Mm.ext.refl w.heap.size noX M29
 refine W_block <|W_seq <|W_reg ?_
 obtain ⟨x45, hx44, hz⟩ := bind_ok hz
 obtain ⟨b44, o44, c44, p44, hv44, hi44, hj44, hM44, hr44⟩ := repL_at hv26 hx44
 replace hr44 : rep _ (sl p44 (o44 + Int.toNat y32 * 1) 1) x45 := hr44
 refine WL_y (Y_ixL il27 hT30_20 hv44 hT30_22 hi44 hj44) <|WL_y (Y_ld1 (.int .i64 x45) ts3 rfl (hS.bvM hM44) hr44) <|WL_y (Y_assign (.int .i64 x45) rfl) ?_
 refine WL_nil (nm_then ?_)
 refine W_seq <|W_reg <|WL_y (Y_move (.int .i64 x45) rfl) <|WL_y (Y_move (.int .i64 y8) hT30_3) <|WL_y (Y_eql rfl rfl) ?_
 refine WL_nil (nm_then ?_)
 refine W_cond rfl (fun hc46 => ?_) (fun hc46 => ?_)
 replace hz := bif_ok_t hz hc46
 refine W_reg <|WL_y (Y_move (.int .i64 y31) hT30_5) <|WL_y (Y_add rfl rfl) <|WL_y (Y_assign (.int .i64 (IntKind.wrap .i64 (y31 + 1))) rfl) ?_
 refine WL_nil (nm_blk ?_)
 refine (nm_then ?_)
 exact ⟨M29, (IntKind.wrap .i64 (y31 + 1)), hF43, hS, hT30_1, hT30_3, hT30_4, rfl, hT30_14, hT30_15, hT30_20, hT30_21, hT30_22, hz⟩
 replace hz := bif_ok_f hz hc46
 refine W_skip (nm_blk ?_)
 refine (nm_then ?_)
 exact ⟨M29, y31, hF43, hS, hT30_1, hT30_3, hT30_4, hT30_5, hT30_14, hT30_15, hT30_20, hT30_21, hT30_22, hz⟩
 rintro T40 w38 ⟨M39, y41, hx42, hS, hT40_1, hT40_3, hT40_4, hT40_5, hT40_14, hT40_15, hT40_20, hT40_21, hT40_22, hz⟩
 replace hcx1 := Rep.mono hx42.1 hcx1
 replace ha4 := Rep.mono hx42.1 ha4
 replace hb24 := Rep.mono hx42.1 hb24
 replace hv26 := repL.mono hx42.1 hv26
 replace hE := Mm.ext.trans hE hx42
 replace hF11 := Mm.ext.trans hF11 hx42
 replace hF18 := Mm.ext.trans hF18 hx42
 replace hF35 := Mm.ext.trans hF35 hx42
 rw [isNode_j2] at hz
 refine W_reg <|WL_y (Y_add hT40_22 rfl) <|WL_y (Y_move (.int .i64 (IntKind.wrap .i64 (y32 + 1))) rfl) ?_
 refine WL_nil (nm_then ?_)
 exact ⟨M39, y41, (IntKind.wrap .i64 (y32 + 1)), hF35, hS, hT40_1, hT40_3, hT40_4, hT40_5, hT40_14, hT40_15, hT40_20, hT40_21, rfl, (by rw [← hrec33]; exact hz)⟩
 replace hz := bif_ok_f hz hc37
 refine W_exit <|ex_then <|ex_then <|ex_hit ?_
 refine (nm_then ?_)
 refine W_seqJ (fun T' w' => ∃ M48, Mm.ext w.heap.size noX M29 M48 ∧ St w noX M48 [.box b22 cs24 44, .box b3 cx1 48] w' ∧ T' 1 = .pointer (some ⟨b3, 0, none⟩) ∧ T' 3 = .int .i64 y8 ∧ T' 4 = .pointer (some ⟨b22, 0, none⟩) ∧ T' 14 = .agg (sl cx1 (0 + 0) 192).toArray ∧ T' 15 = .int .i64 y8 ∧ isNode_j3 fu y8 rec9 d25 = some r) ?_ ?_
 have hF157 := Mm.ext.refl w.heap.size noX M29
 refine W_seqJ (fun T' w' => ∃ M159 c161, Mm.ext w.heap.size noX M29 M159 ∧ St w noX M159 [.box b22 cs24 44, .box b3 cx1 48] w' ∧ T' 1 = .pointer (some ⟨b3, 0, none⟩) ∧ T' 3 = .int .i64 y8 ∧ T' 4 = .pointer (some ⟨b22, 0, none⟩) ∧ T' 14 = .agg (sl cx1 (0 + 0) 192).toArray ∧ T' 15 = .int .i64 y8 ∧ T' 57 = .bool c161 ∧ isNode_j11 fu y8 rec9 d25 c161 = some r) ?_ ?_
 have hF164 := Mm.ext.refl w.heap.size noX M29
 refine W_reg <|WL_y (Y_fa fa44_0 hT30_4) <|WL_y (Y_ld1 (.int .i64 d25.state) ts3 rfl (hS.bvB 0 rfl) (GEntry.p0 (rep_root (k := 6) rfl hb24))) <|WL_y (Y_lss rfl rfl) <|WL_y (Y_move (.bool (decide (d25.state < 0))) rfl) ?_
 rcases ic hz with ⟨hc165, hz⟩ | ⟨hc165, hz⟩ <;> rw [hc165]
 refine WL_d 22 rfl ?_
 refine WL_nil (nm_then ?_)
 exact ⟨M29, true, hF164, hS, hT30_1, hT30_3, hT30_4, hT30_14, hT30_15, rfl, hz⟩
 refine WL_gy rfl rfl (Y_fa fa44_0 hT30_4) <|WL_gy rfl rfl (Y_ld1 (.int .i64 d25.state) ts3 rfl (hS.bvB 0 rfl) (GEntry.p0 (rep_root (k := 6) rfl hb24))) <|WL_gy rfl rfl (Y_gtr rfl rfl) <|WL_d 2 rfl ?_
 rcases ic hz with ⟨hc166, hz⟩ | ⟨hc166, hz⟩ <;> rw [hc166]
 refine WL_d 17 rfl ?_
 refine WL_nil (nm_then ?_)
 exact ⟨M29, true, hF164, hS, hT30_1, hT30_3, hT30_4, hT30_14, hT30_15, rfl, hz⟩
 refine WL_gy rfl rfl (Y_fa fa44_0 hT30_4) <|WL_gy rfl rfl (Y_ld1 (.int .i64 d25.state) ts3 rfl (hS.bvB 0 rfl) (GEntry.p0 (rep_root (k := 6) rfl hb24))) <|WL_gy rfl rfl (Y_eql rfl rfl) <|WL_gy rfl rfl (Y_move (.bool (d25.state == 3)) rfl) ?_
 rcases ic hz with ⟨hc167, hz⟩ | ⟨hc167, hz⟩ <;> rw [hc167]
 refine WL_gy rfl rfl (Y_move (.int .i64 y31) hT30_5) <|WL_gy rfl rfl (Y_neq rfl rfl) <|WL_d 3 rfl ?_
 rcases ic hz with ⟨hc168, hz⟩ | ⟨hc168, hz⟩ <;> rw [hc168]
 refine WL_d 8 rfl ?_
 refine WL_nil (nm_then ?_)
 exact ⟨M29, true, hF164, hS, hT30_1, hT30_3, hT30_4, hT30_14, hT30_15, rfl, hz⟩
 refine WL_gy rfl rfl (Y_fa fa44_0 hT30_4) <|WL_gy rfl rfl (Y_ld1 (.int .i64 d25.state) ts3 rfl (hS.bvB 0 rfl) (GEntry.p0 (rep_root (k := 6) rfl hb24))) <|WL_gy rfl rfl (Y_neq rfl rfl) <|WL_gy rfl rfl (Y_move (.bool (d25.state != 3)) rfl) ?_
 rcases ic hz with ⟨hc169, hz⟩ | ⟨hc169, hz⟩ <;> rw [hc169]
 refine WL_gy rfl rfl (Y_move (.int .i64 y31) hT30_5) <|WL_gy rfl rfl (Y_neq rfl rfl) <|WL_d 2 rfl ?_
 refine WL_nil (nm_then ?_)
 exact ⟨M29, (y31 != 0), hF164, hS, hT30_1, hT30_3, hT30_4, hT30_14, hT30_15, rfl, hz⟩
 refine WL_d 4 rfl ?_
 refine WL_nil (nm_then ?_)
 exact ⟨M29, false, hF164, hS, hT30_1, hT30_3, hT30_4, hT30_14, hT30_15, rfl, hz⟩
 refine WL_d 5 rfl <|WL_gy rfl rfl (Y_fa fa44_0 hT30_4) <|WL_gy rfl rfl (Y_ld1 (.int .i64 d25.state) ts3 rfl (hS.bvB 0 rfl) (GEntry.p0 (rep_root (k := 6) rfl hb24))) <|WL_gy rfl rfl (Y_neq rfl rfl) <|WL_gy rfl rfl (Y_move (.bool (d25.state != 3)) rfl) ?_
 rcases ic hz with ⟨hc170, hz⟩ | ⟨hc170, hz⟩ <;> rw [hc170]
 refine WL_gy rfl rfl (Y_move (.int .i64 y31) hT30_5) <|WL_gy rfl rfl (Y_neq rfl rfl) <|WL_d 2 rfl ?_
 refine WL_nil (nm_then ?_)
 exact ⟨M29, (y31 != 0), hF164, hS, hT30_1, hT30_3, hT30_4, hT30_14, hT30_15, rfl, hz⟩
 refine WL_d 4 rfl ?_
 refine WL_nil (nm_then ?_)
 exact ⟨M29, false, hF164, hS, hT30_1, hT30_3, hT30_4, hT30_14, hT30_15, rfl, hz⟩
 rintro T160 w158 ⟨M159, c161, hx162, hS, hT160_1, hT160_3, hT160_4, hT160_14, hT160_15, hT160_57, hz⟩
 replace hcx1 := Rep.mono hx162.1 hcx1
 replace ha4 := Rep.mono hx162.1 ha4
 replace hb24 := Rep.mono hx162.1 hb24
 replace hE := Mm.ext.trans hE hx162
 replace hF11 := Mm.ext.trans hF11 hx162
 replace hF18 := Mm.ext.trans hF18 hx162
 replace hF35 := Mm.ext.trans hF35 hx162
 replace hF157 := Mm.ext.trans hF157 hx162
 rw [isNode_j11] at hz
 refine W_cond hT160_57 (fun hc163 => ?_) (fun hc163 => ?_)
 replace hz := bif_ok_t hz hc163
 refine W_seq <|W_reg <|WL_y (Y_assign (.bool false) rfl) ?_
 refine WL_nil (nm_then ?_)
 cases hz
 exact W_ret (rt_then (rt_blk (rt_then (rt_then (rt_blk (rt_then (R_t1 rfl rfl ⟨rfl, (St.dropB (St.dropB hS hb22) hb3).kept⟩)))))))
 replace hz := bif_ok_f hz hc163
 refine W_skip (nm_then ?_)
 exact ⟨M159, hF157, hS, hT160_1, hT160_3, hT160_4, hT160_14, hT160_15, hz⟩
 rintro T49 w47 ⟨M48, hx50, hS, hT49_1, hT49_3, hT49_4, hT49_14, hT49_15, hz⟩
 replace hcx1 := Rep.mono hx50.1 hcx1
 replace ha4 := Rep.mono hx50.1 ha4
 replace hb24 := Rep.mono hx50.1 hb24
 replace hE := Mm.ext.trans hE hx50
 replace hF11 := Mm.ext.trans hF11 hx50
 replace hF18 := Mm.ext.trans hF18 hx50
 replace hF35 := Mm.ext.trans hF35 hx50
 rw [isNode_j3] at hz
 refine W_seq <|W_seq <|W_reg <|WL_y (Y_fa fa44_0 hT49_4) <|WL_y (Y_ld1 (.int .i64 d25.state) ts3 rfl (hS.bvB 0 rfl) (GEntry.p0 (rep_root (k := 6) rfl hb24))) <|WL_y (Y_eql rfl rfl) ?_
 refine WL_nil (nm_then ?_)
 refine W_cond rfl (fun hc51 => ?_) (fun hc51 => ?_)
 replace hz := bif_ok_t hz hc51
 refine W_seq <|W_seq <|W_reg ?_
 have ha52 := (rep_root (k := 6) rfl hb24)
 refine WL_y (Y_ldn ta44 hT49_4 (hS.bvB 0 rfl) (Rep.len ha52)) ?_
 obtain ⟨d54, hd53, hz⟩ := bind_ok hz
 obtain ⟨cs53, hf53, ha53⟩ : ∃ cs, fillZ (([(0, 1), (1, 1), (2, 1), (3, 1), (4, 1), (5, 1)] : List (Nat × Nat))[·]?) (Zr.zc GEntry) [] = some cs ∧ rep M48 cs d54 := ⟨_, fz_nil, rep_eq (x := ({ state := Zr.zd, ops := Zr.zd, first := Zr.zd, deps := Zr.zd, at_ := Zr.zd, values := Zr.zd } : GEntry)) (Zr.zr : rep M48 (Zr.zc GEntry) (Zr.zd : GEntry)) hd53⟩
 refine WL_y (Y_build [] tb44 bp0 hf53) ?_
 obtain ⟨r57, hr56, hz⟩ := bind_ok hz
 refine WL_c (O_val (vs := [.agg (sl cs24 (0) 6).toArray, .agg cs53.toArray]) (v := .bool r57) cb61 (args2 rfl rfl) hS (sameEntry_ok hS.agree ha52 ha53 hr56) ?_)
 intro w55 hS
 refine WL_y (Y_not rfl) ?_
 refine WL_nil (nm_then ?_)
 refine W_cond rfl (fun hc58 => ?_) (fun hc58 => ?_)
 replace hz := bif_ok_t hz hc58
 refine W_seq <|W_reg <|WL_y (Y_assign (.bool false) rfl) ?_
 refine WL_nil (nm_then ?_)
 cases hz
 exact W_ret (rt_then (rt_then (rt_blk (rt_then (rt_then (rt_blk (rt_then (R_t1 rfl rfl ⟨rfl, (St.dropB (St.dropB hS hb22) hb3).kept⟩))))))))
 replace hz := bif_ok_f hz hc58
 refine W_skip (nm_then ?_)
 refine W_exit <|ex_then <|ex_hit ?_
 refine (nm_then ?_)
 exact ⟨M48, hF18, (St.dropB hS hb22), hT49_1, hT49_14, hT49_15, hz⟩
 replace hz := bif_ok_f hz hc51
 refine W_skip (nm_then ?_)
 refine W_seqJ (fun T' w' => ∃ M60, Mm.ext w.heap.size noX M48 M60 ∧ St w noX M60 [.box b22 cs24 44, .box b3 cx1 48] w' ∧ T' 1 = .pointer (some ⟨b3, 0, none⟩) ∧ T' 4 = .pointer (some ⟨b22, 0, none⟩) ∧ T' 14 = .agg (sl cx1 (0 + 0) 192).toArray ∧ T' 15 = .int .i64 y8 ∧ isNode_j4 fu y8 rec9 d25 = some r) ?_ ?_
 have hF120 := Mm.ext.refl w.heap.size noX M48
 refine W_seqJ (fun T' w' => ∃ M122 c124, Mm.ext w.heap.size noX M48 M122 ∧ St w noX M122 [.box b22 cs24 44, .box b3 cx1 48] w' ∧ T' 1 = .pointer (some ⟨b3, 0, none⟩) ∧ T' 4 = .pointer (some ⟨b22, 0, none⟩) ∧ T' 14 = .agg (sl cx1 (0 + 0) 192).toArray ∧ T' 15 = .int .i64 y8 ∧ T' 101 = .bool c124 ∧ isNode_j10 fu y8 rec9 d25 c124 = some r) ?_ ?_
 have hF127 := Mm.ext.refl w.heap.size noX M48
 refine W_reg <|WL_y (Y_fa fa44_1 hT49_4) ?_
 obtain ⟨v128, ev128, hv128⟩ := (GEntry.p1 (rep_root (k := 6) rfl hb24))
 refine WL_y (Y_ld1 v128 ts22 rfl (hS.bvB 0 rfl) ev128) ?_
 obtain ⟨r131, hr130, hz⟩ := bind_ok hz
 replace hr130 := Option.some.inj hr130
 refine WL_c (O_val (vs := [v128]) (v := .bool r131) cb63 (args1 rfl) hS (hr130 ▸ (c_isOps hS.agree hv128)) ?_)
 intro w129 hS
 refine WL_y (Y_not rfl) <|WL_y (Y_move (.bool (!r131)) rfl) ?_
 rcases ic hz with ⟨hc132, hz⟩ | ⟨hc132, hz⟩ <;> rw [hc132]
 refine WL_d 32 rfl ?_
 refine WL_nil (nm_then ?_)
 exact ⟨M48, true, hF127, hS, hT49_1, hT49_4, hT49_14, hT49_15, rfl, hz⟩
 refine WL_gy rfl rfl (Y_fa fa44_2 hT49_4) ?_
 obtain ⟨v133, ev133, hv133⟩ := (GEntry.p2 (rep_root (k := 6) rfl hb24))
 refine WL_gy rfl rfl (Y_ld1 v133 ts27 rfl (hS.bvB 0 rfl) ev133) ?_
 obtain ⟨r136, hr135, hz⟩ := bind_ok hz
 replace hr135 := Option.some.inj hr135
 refine WL_g rfl rfl (O_val (vs := [v133]) (v := .bool r136) cb64 (args1 rfl) hS (hr135 ▸ (c_isRising hS.agree hv133)) ?_)
 intro w134 hS
 refine WL_gy rfl rfl (Y_not rfl) <|WL_d 2 rfl ?_
 rcases ic hz with ⟨hc137, hz⟩ | ⟨hc137, hz⟩ <;> rw [hc137]
 refine WL_d 26 rfl ?_
 refine WL_nil (nm_then ?_)
 exact ⟨M48, true, hF127, hS, hT49_1, hT49_4, hT49_14, hT49_15, rfl, hz⟩
 refine WL_gy rfl rfl (Y_fa fa44_3 hT49_4) ?_
 obtain ⟨v138, ev138, hv138⟩ := (GEntry.p3 (rep_root (k := 6) rfl hb24))
 refine WL_gy rfl rfl (Y_ld1 v138 ts27 rfl (hS.bvB 0 rfl) ev138) ?_
 obtain ⟨r141, hr140, hz⟩ := bind_ok hz
 replace hr140 := Option.some.inj hr140
 refine WL_g rfl rfl (O_val (vs := [v138]) (v := .bool r141) cb64 (args1 rfl) hS (hr140 ▸ (c_isRising hS.agree hv138)) ?_)
 intro w139 hS
 refine WL_gy rfl rfl (Y_not rfl) <|WL_d 2 rfl ?_
 rcases ic hz with ⟨hc142, hz⟩ | ⟨hc142, hz⟩ <;> rw [hc142]
 refine WL_d 20 rfl ?_
 refine WL_nil (nm_then ?_)
 exact ⟨M48, true, hF127, hS, hT49_1, hT49_4, hT49_14, hT49_15, rfl, hz⟩
 refine WL_gy rfl rfl (Y_fa fa44_2 hT49_4) ?_
 obtain ⟨v143, ev143, hv143⟩ := (GEntry.p2 (rep_root (k := 6) rfl hb24))
 refine WL_gy rfl rfl (Y_ld1 v143 ts27 rfl (hS.bvB 0 rfl) ev143) <|WL_gy rfl rfl (Y_move (.int .i64 y8) hT49_3) ?_
 obtain ⟨r146, hr145, hz⟩ := bind_ok hz
 replace hr145 := Option.some.inj hr145
 refine WL_g rfl rfl (O_val (vs := [v143, .int .i64 y8]) (v := .bool r146) cb65 (args2 rfl rfl) hS (hr145 ▸ (c_refHas hS.agree hv143)) ?_)
 intro w144 hS
 refine WL_d 2 rfl ?_
 rcases ic hz with ⟨hc147, hz⟩ | ⟨hc147, hz⟩ <;> rw [hc147]
 refine WL_d 14 rfl ?_
 refine WL_nil (nm_then ?_)
 exact ⟨M48, true, hF127, hS, hT49_1, hT49_4, hT49_14, hT49_15, rfl, hz⟩
 refine WL_gy rfl rfl (Y_fa fa44_3 hT49_4) ?_
 obtain ⟨v148, ev148, hv148⟩ := (GEntry.p3 (rep_root (k := 6) rfl hb24))
 refine WL_gy rfl rfl (Y_ld1 v148 ts27 rfl (hS.bvB 0 rfl) ev148) <|WL_gy rfl rfl (Y_move (.int .i64 y8) hT49_3) ?_
 obtain ⟨r151, hr150, hz⟩ := bind_ok hz
 replace hr150 := Option.some.inj hr150
 refine WL_g rfl rfl (O_val (vs := [v148, .int .i64 y8]) (v := .bool r151) cb65 (args2 rfl rfl) hS (hr150 ▸ (c_refHas hS.agree hv148)) ?_)
 intro w149 hS
 refine WL_d 2 rfl ?_
 rcases ic hz with ⟨hc152, hz⟩ | ⟨hc152, hz⟩ <;> rw [hc152]
 refine WL_d 8 rfl ?_
 refine WL_nil (nm_then ?_)
 exact ⟨M48, true, hF127, hS, hT49_1, hT49_4, hT49_14, hT49_15, rfl, hz⟩
 refine WL_gy rfl rfl (Y_fa fa44_4 hT49_4) ?_
 obtain ⟨v153, ev153, hv153⟩ := (GEntry.p4 (rep_root (k := 6) rfl hb24))
 refine WL_gy rfl rfl (Y_ld1 v153 ts27 rfl (hS.bvB 0 rfl) ev153) ?_
 obtain ⟨a154, c154, hv154, _⟩ := repL_shape hv153
 refine WL_gy rfl rfl (Y_lenL Try.underlying27 (tr2 hv154 rfl)) <|WL_gy rfl rfl (Y_fa fa44_5 hT49_4) ?_
 obtain ⟨v155, ev155, hv155⟩ := (GEntry.p5 (rep_root (k := 6) rfl hb24))
 refine WL_gy rfl rfl (Y_ld1 v155 ts27 rfl (hS.bvB 0 rfl) ev155) ?_
 obtain ⟨a156, c156, hv156, _⟩ := repL_shape hv155
 refine WL_gy rfl rfl (Y_lenL Try.underlying27 (tr2 hv156 rfl)) <|WL_gy rfl rfl (Y_neq rfl rfl) <|WL_y (Y_pick_f (.bool ((d25.at_.length : Int) != (d25.values.length : Int))) rfl rfl) ?_
 refine WL_nil (nm_then ?_)
 exact ⟨M48, ((d25.at_.length : Int) != (d25.values.length : Int)), hF127, hS, hT49_1, hT49_4, hT49_14, hT49_15, rfl, hz⟩
 rintro T123 w121 ⟨M122, c124, hx125, hS, hT123_1, hT123_4, hT123_14, hT123_15, hT123_101, hz⟩
 replace hcx1 := Rep.mono hx125.1 hcx1
 replace ha4 := Rep.mono hx125.1 ha4
 replace hb24 := Rep.mono hx125.1 hb24
 replace hE := Mm.ext.trans hE hx125
 replace hF11 := Mm.ext.trans hF11 hx125
 replace hF18 := Mm.ext.trans hF18 hx125
 replace hF35 := Mm.ext.trans hF35 hx125
 replace hF120 := Mm.ext.trans hF120 hx125
 rw [isNode_j10] at hz
 refine W_cond hT123_101 (fun hc126 => ?_) (fun hc126 => ?_)
 replace hz := bif_ok_t hz hc126
 refine W_seq <|W_reg <|WL_y (Y_assign (.bool false) rfl) ?_
 refine WL_nil (nm_then ?_)
 cases hz
 exact W_ret (rt_then (rt_blk (rt_then (rt_then (rt_blk (rt_then (R_t1 rfl rfl ⟨rfl, (St.dropB (St.dropB hS hb22) hb3).kept⟩)))))))
 replace hz := bif_ok_f hz hc126
 refine W_skip (nm_then ?_)
 exact ⟨M122, hF120, hS, hT123_1, hT123_4, hT123_14, hT123_15, hz⟩
 rintro T61 w59 ⟨M60, hx62, hS, hT61_1, hT61_4, hT61_14, hT61_15, hz⟩
 replace hcx1 := Rep.mono hx62.1 hcx1
 replace ha4 := Rep.mono hx62.1 ha4
 replace hb24 := Rep.mono hx62.1 hb24
 replace hE := Mm.ext.trans hE hx62
 replace hF11 := Mm.ext.trans hF11 hx62
 replace hF18 := Mm.ext.trans hF18 hx62
 replace hF35 := Mm.ext.trans hF35 hx62
 rw [isNode_j4] at hz
 refine W_seqJ (fun T' w' => ∃ M64, Mm.ext w.heap.size noX M60 M64 ∧ St w noX M64 [.box b22 cs24 44, .box b3 cx1 48] w' ∧ T' 1 = .pointer (some ⟨b3, 0, none⟩) ∧ T' 4 = .pointer (some ⟨b22, 0, none⟩) ∧ T' 14 = .agg (sl cx1 (0 + 0) 192).toArray ∧ T' 15 = .int .i64 y8 ∧ isNode_j5 fu y8 rec9 d25 = some r) ?_ ?_
 have hF102 := Mm.ext.refl w.heap.size noX M60
 refine W_seqJ (fun T' w' => ∃ M104 c106, Mm.ext w.heap.size noX M60 M104 ∧ St w noX M104 [.box b22 cs24 44, .box b3 cx1 48] w' ∧ T' 1 = .pointer (some ⟨b3, 0, none⟩) ∧ T' 4 = .pointer (some ⟨b22, 0, none⟩) ∧ T' 14 = .agg (sl cx1 (0 + 0) 192).toArray ∧ T' 15 = .int .i64 y8 ∧ T' 121 = .bool c106 ∧ isNode_j9 fu y8 rec9 d25 c106 = some r) ?_ ?_
 have hF109 := Mm.ext.refl w.heap.size noX M60
 refine W_reg <|WL_y (Y_fa fa44_0 hT61_4) <|WL_y (Y_ld1 (.int .i64 d25.state) ts3 rfl (hS.bvB 0 rfl) (GEntry.p0 (rep_root (k := 6) rfl hb24))) <|WL_y (Y_eql rfl rfl) <|WL_y (Y_move (.bool (d25.state == 1)) rfl) ?_
 rcases ic hz with ⟨hc110, hz⟩ | ⟨hc110, hz⟩ <;> rw [hc110]
 refine WL_gy rfl rfl (Y_fa fa44_3 hT61_4) ?_
 obtain ⟨v111, ev111, hv111⟩ := (GEntry.p3 (rep_root (k := 6) rfl hb24))
 refine WL_gy rfl rfl (Y_ld1 v111 ts27 rfl (hS.bvB 0 rfl) ev111) ?_
 obtain ⟨a112, c112, hv112, _⟩ := repL_shape hv111
 refine WL_gy rfl rfl (Y_lenL Try.underlying27 (tr2 hv112 rfl)) <|WL_gy rfl rfl (Y_gtr rfl rfl) <|WL_d 2 rfl ?_
 rcases ic hz with ⟨hc113, hz⟩ | ⟨hc113, hz⟩ <;> rw [hc113]
 refine WL_d 10 rfl ?_
 refine WL_nil (nm_then ?_)
 exact ⟨M60, true, hF109, hS, hT61_1, hT61_4, hT61_14, hT61_15, rfl, hz⟩
 refine WL_gy rfl rfl (Y_fa fa44_0 hT61_4) <|WL_gy rfl rfl (Y_ld1 (.int .i64 d25.state) ts3 rfl (hS.bvB 0 rfl) (GEntry.p0 (rep_root (k := 6) rfl hb24))) <|WL_gy rfl rfl (Y_lss rfl rfl) <|WL_gy rfl rfl (Y_move (.bool (decide (d25.state < 3))) rfl) ?_
 rcases ic hz with ⟨hc114, hz⟩ | ⟨hc114, hz⟩ <;> rw [hc114]
 refine WL_gy rfl rfl (Y_fa fa44_4 hT61_4) ?_
 obtain ⟨v115, ev115, hv115⟩ := (GEntry.p4 (rep_root (k := 6) rfl hb24))
 refine WL_gy rfl rfl (Y_ld1 v115 ts27 rfl (hS.bvB 0 rfl) ev115) ?_
 obtain ⟨a116, c116, hv116, _⟩ := repL_shape hv115
 refine WL_gy rfl rfl (Y_lenL Try.underlying27 (tr2 hv116 rfl)) <|WL_gy rfl rfl (Y_gtr rfl rfl) <|WL_d 2 rfl ?_
 refine WL_nil (nm_then ?_)
 exact ⟨M60, (decide ((d25.at_.length : Int) > 0)), hF109, hS, hT61_1, hT61_4, hT61_14, hT61_15, rfl, hz⟩
 refine WL_d 6 rfl ?_
 refine WL_nil (nm_then ?_)
 exact ⟨M60, false, hF109, hS, hT61_1, hT61_4, hT61_14, hT61_15, rfl, hz⟩
 refine WL_d 6 rfl <|WL_gy rfl rfl (Y_fa fa44_0 hT61_4) <|WL_gy rfl rfl (Y_ld1 (.int .i64 d25.state) ts3 rfl (hS.bvB 0 rfl) (GEntry.p0 (rep_root (k := 6) rfl hb24))) <|WL_gy rfl rfl (Y_lss rfl rfl) <|WL_gy rfl rfl (Y_move (.bool (decide (d25.state < 3))) rfl) ?_
 rcases ic hz with ⟨hc117, hz⟩ | ⟨hc117, hz⟩ <;> rw [hc117]
 refine WL_gy rfl rfl (Y_fa fa44_4 hT61_4) ?_
 obtain ⟨v118, ev118, hv118⟩ := (GEntry.p4 (rep_root (k := 6) rfl hb24))
 refine WL_gy rfl rfl (Y_ld1 v118 ts27 rfl (hS.bvB 0 rfl) ev118) ?_
 obtain ⟨a119, c119, hv119, _⟩ := repL_shape hv118
 refine WL_gy rfl rfl (Y_lenL Try.underlying27 (tr2 hv119 rfl)) <|WL_gy rfl rfl (Y_gtr rfl rfl) <|WL_d 2 rfl ?_
 refine WL_nil (nm_then ?_)
 exact ⟨M60, (decide ((d25.at_.length : Int) > 0)), hF109, hS, hT61_1, hT61_4, hT61_14, hT61_15, rfl, hz⟩
 refine WL_d 6 rfl ?_
 refine WL_nil (nm_then ?_)
 exact ⟨M60, false, hF109, hS, hT61_1, hT61_4, hT61_14, hT61_15, rfl, hz⟩
 rintro T105 w103 ⟨M104, c106, hx107, hS, hT105_1, hT105_4, hT105_14, hT105_15, hT105_121, hz⟩
 replace hcx1 := Rep.mono hx107.1 hcx1
 replace ha4 := Rep.mono hx107.1 ha4
 replace hb24 := Rep.mono hx107.1 hb24
 replace hE := Mm.ext.trans hE hx107
 replace hF11 := Mm.ext.trans hF11 hx107
 replace hF18 := Mm.ext.trans hF18 hx107
 replace hF35 := Mm.ext.trans hF35 hx107
 replace hF102 := Mm.ext.trans hF102 hx107
 rw [isNode_j9] at hz
 refine W_cond hT105_121 (fun hc108 => ?_) (fun hc108 => ?_)
 replace hz := bif_ok_t hz hc108
 refine W_seq <|W_reg <|WL_y (Y_assign (.bool false) rfl) ?_
 refine WL_nil (nm_then ?_)
 cases hz
 exact W_ret (rt_then (rt_blk (rt_then (rt_then (rt_blk (rt_then (R_t1 rfl rfl ⟨rfl, (St.dropB (St.dropB hS hb22) hb3).kept⟩)))))))
 replace hz := bif_ok_f hz hc108
 refine W_skip (nm_then ?_)
 exact ⟨M104, hF102, hS, hT105_1, hT105_4, hT105_14, hT105_15, hz⟩
 rintro T65 w63 ⟨M64, hx66, hS, hT65_1, hT65_4, hT65_14, hT65_15, hz⟩
 replace hcx1 := Rep.mono hx66.1 hcx1
 replace ha4 := Rep.mono hx66.1 ha4
 replace hb24 := Rep.mono hx66.1 hb24
 replace hE := Mm.ext.trans hE hx66
 replace hF11 := Mm.ext.trans hF11 hx66
 replace hF18 := Mm.ext.trans hF18 hx66
 replace hF35 := Mm.ext.trans hF35 hx66
 rw [isNode_j5] at hz
 refine W_seq <|W_reg <|WL_y (Y_assign (.int .i64 (-1)) rfl) ?_
 refine WL_nil (nm_then ?_)
 refine W_seq <|W_reg <|WL_y (Y_fa fa44_4 hT65_4) ?_
 obtain ⟨v67, ev67, hv67⟩ := (GEntry.p4 (rep_root (k := 6) rfl hb24))
 refine WL_y (Y_ld1 v67 ts27 rfl (hS.bvB 0 rfl) ev67) ?_
 obtain ⟨a68, c68, hv68, _⟩ := repL_shape hv67
 refine WL_y (Y_lenL Try.underlying27 (tr2 hv68 rfl)) <|WL_y (Y_move (.int .i64 0) rfl) ?_
 refine WL_nil (nm_then ?_)
 refine W_block ?_
 refine W_loop (fun k75 T' w' => ∃ M70 y72 y73, Mm.ext w.heap.size noX M64 M70 ∧ St w noX M70 [.box b22 cs24 44, .box b3 cx1 48] w' ∧ T' 1 = .pointer (some ⟨b3, 0, none⟩) ∧ T' 4 = .pointer (some ⟨b22, 0, none⟩) ∧ T' 8 = .int .i64 y72 ∧ T' 14 = .agg (sl cx1 (0 + 0) 192).toArray ∧ T' 15 = .int .i64 y8 ∧ T' 123 = v67 ∧ T' 124 = .int .i64 (d25.at_.length : Int) ∧ T' 125 = .int .i64 y73 ∧ isNode_l3 y8 rec9 d25 k75 y72 y73 = some r) fu ?_ ?_ ?_
 exact ⟨M64, ((-1) : Int), (0 : Int), (Mm.ext.refl _ _ _), hS, hT65_1, hT65_4, rfl, hT65_14, hT65_15, rfl, rfl, rfl, hz⟩
 rintro T' w' ⟨_, _, _, _, _, _, _, _, _, _, _, _, _, hz⟩
 rw [isNode_l3] at hz
 cases hz
 intro k75
 rintro T71 w69 ⟨M70, y72, y73, hx77, hS, hT71_1, hT71_4, hT71_8, hT71_14, hT71_15, hT71_123, hT71_124, hT71_125, hz⟩
 replace hcx1 := Rep.mono hx77.1 hcx1
 replace ha4 := Rep.mono hx77.1 ha4
 replace hb24 := Rep.mono hx77.1 hb24
 replace hv67 := repL.mono hx77.1 hv67
 replace hE := Mm.ext.trans hE hx77
 replace hF11 := Mm.ext.trans hF11 hx77
 replace hF18 := Mm.ext.trans hF18 hx77
 replace hF35 := Mm.ext.trans hF35 hx77
 have hF76 := hx77
 rw [isNode_l3] at hz
 obtain ⟨rec74, hrec74⟩ : ∃ f, f = isNode_l3 y8 rec9 d25 k75 := ⟨_, rfl⟩
 rw [← hrec74] at hz
 refine W_seq <|W_reg <|WL_y (Y_lss hT71_125 hT71_124) ?_
 refine WL_nil (nm_then ?_)
 refine W_seq ?_
 refine W_cond rfl (fun hc78 => ?_) (fun hc78 => ?_)
 replace hz := bif_ok_t hz hc78
 refine W_skip (nm_then ?_)
 refine W_seqJ (fun T' w' => ∃ M80 y82, Mm.ext w.heap.size noX M70 M80 ∧ St w noX M80 [.box b22 cs24 44, .box b3 cx1 48] w' ∧ T' 1 = .pointer (some ⟨b3, 0, none⟩) ∧ T' 4 = .pointer (some ⟨b22, 0, none⟩) ∧ T' 8 = .int .i64 y82 ∧ T' 14 = .agg (sl cx1 (0 + 0) 192).toArray ∧ T' 15 = .int .i64 y8 ∧ T' 123 = v67 ∧ T' 124 = .int .i64 (d25.at_.length : Int) ∧ T' 125 = .int .i64 y73 ∧ isNode_j6 y73 rec74 y82 = some r) ?_ ?_
 have hF84 := Mm.ext.refl w.heap.size noX M70
 refine W_block <|W_seq <|W_reg ?_
 obtain ⟨x86, hx85, hz⟩ := bind_ok hz
 obtain ⟨b85, o85, c85, p85, hv85, hi85, hj85, hM85, hr85⟩ := repL_at hv67 hx85
 replace hr85 : rep _ (sl p85 (o85 + Int.toNat y73 * 1) 1) x86 := hr85
 refine WL_y (Y_ixL il27 hT71_123 hv85 hT71_125 hi85 hj85) <|WL_y (Y_ld1 (.int .i64 x86) ts3 rfl (hS.bvM hM85) hr85) <|WL_y (Y_assign (.int .i64 x86) rfl) ?_
 refine WL_nil (nm_then ?_)
 refine W_seqJ (fun T' w' => ∃ M88, Mm.ext w.heap.size noX M70 M88 ∧ St w noX M88 [.box b22 cs24 44, .box b3 cx1 48] w' ∧ T' 1 = .pointer (some ⟨b3, 0, none⟩) ∧ T' 4 = .pointer (some ⟨b22, 0, none⟩) ∧ T' 10 = .int .i64 x86 ∧ T' 14 = .agg (sl cx1 (0 + 0) 192).toArray ∧ T' 15 = .int .i64 y8 ∧ T' 123 = v67 ∧ T' 124 = .int .i64 (d25.at_.length : Int) ∧ T' 125 = .int .i64 y73 ∧ isNode_j7 y73 rec74 x86 = some r) ?_ ?_
 have hF91 := Mm.ext.refl w.heap.size noX M70
 refine W_seqJ (fun T' w' => ∃ M93 c95, Mm.ext w.heap.size noX M70 M93 ∧ St w noX M93 [.box b22 cs24 44, .box b3 cx1 48] w' ∧ T' 1 = .pointer (some ⟨b3, 0, none⟩) ∧ T' 4 = .pointer (some ⟨b22, 0, none⟩) ∧ T' 10 = .int .i64 x86 ∧ T' 14 = .agg (sl cx1 (0 + 0) 192).toArray ∧ T' 15 = .int .i64 y8 ∧ T' 123 = v67 ∧ T' 124 = .int .i64 (d25.at_.length : Int) ∧ T' 125 = .int .i64 y73 ∧ T' 138 = .bool c95 ∧ isNode_j8 y73 rec74 x86 c95 = some r) ?_ ?_
 have hF98 := Mm.ext.refl w.heap.size noX M70
 refine W_reg <|WL_y (Y_move (.int .i64 x86) rfl) <|WL_y (Y_move (.int .i64 y72) hT71_8) <|WL_y (Y_leq rfl rfl) <|WL_y (Y_move (.bool (decide (x86 ≤ y72))) rfl) ?_
 rcases ic hz with ⟨hc99, hz⟩ | ⟨hc99, hz⟩ <;> rw [hc99]
 refine WL_d 6 rfl ?_
 refine WL_nil (nm_then ?_)
 exact ⟨M70, true, hF98, hS, hT71_1, hT71_4, rfl, hT71_14, hT71_15, hT71_123, hT71_124, hT71_125, rfl, hz⟩
 refine WL_gy rfl rfl (Y_move (.int .i64 x86) rfl) <|WL_gy rfl rfl (Y_fa fa44_1 hT71_4) ?_
 obtain ⟨v100, ev100, hv100⟩ := (GEntry.p1 (rep_root (k := 6) rfl hb24))
 refine WL_gy rfl rfl (Y_ld1 v100 ts22 rfl (hS.bvB 0 rfl) ev100) ?_
 obtain ⟨a101, c101, hv101, _⟩ := repL_shape hv100
 refine WL_gy rfl rfl (Y_lenL Try.underlying22 (tr2 hv101 rfl)) <|WL_gy rfl rfl (Y_geq rfl rfl) <|WL_y (Y_pick_f (.bool (decide (x86 ≥ (d25.ops.length : Int)))) rfl rfl) ?_
 refine WL_nil (nm_then ?_)
 exact ⟨M70, (decide (x86 ≥ (d25.ops.length : Int))), hF98, hS, hT71_1, hT71_4, rfl, hT71_14, hT71_15, hT71_123, hT71_124, hT71_125, rfl, hz⟩
 rintro T94 w92 ⟨M93, c95, hx96, hS, hT94_1, hT94_4, hT94_10, hT94_14, hT94_15, hT94_123, hT94_124, hT94_125, hT94_138, hz⟩
 replace hcx1 := Rep.mono hx96.1 hcx1
 replace ha4 := Rep.mono hx96.1 ha4
 replace hb24 := Rep.mono hx96.1 hb24
 replace hv67 := repL.mono hx96.1 hv67
 replace hE := Mm.ext.trans hE hx96
 replace hF11 := Mm.ext.trans hF11 hx96
 replace hF18 := Mm.ext.trans hF18 hx96
 replace hF35 := Mm.ext.trans hF35 hx96
 replace hF76 := Mm.ext.trans hF76 hx96
 replace hF84 := Mm.ext.trans hF84 hx96
 replace hF91 := Mm.ext.trans hF91 hx96
 rw [isNode_j8] at hz
 refine W_cond hT94_138 (fun hc97 => ?_) (fun hc97 => ?_)
 replace hz := bif_ok_t hz hc97
 refine W_seq <|W_reg <|WL_y (Y_assign (.bool false) rfl) ?_
 refine WL_nil (nm_then ?_)
 cases hz
 exact W_ret (rt_then (rt_blk (rt_then (rt_then (rt_blk (rt_blk (rt_then (rt_then (rt_blk (rt_then (R_t1 rfl rfl ⟨rfl, (St.dropB (St.dropB hS hb22) hb3).kept⟩)))))))))))
 replace hz := bif_ok_f hz hc97
 refine W_skip (nm_then ?_)
 exact ⟨M93, hF91, hS, hT94_1, hT94_4, hT94_10, hT94_14, hT94_15, hT94_123, hT94_124, hT94_125, hz⟩
 rintro T89 w87 ⟨M88, hx90, hS, hT89_1, hT89_4, hT89_10, hT89_14, hT89_15, hT89_123, hT89_124, hT89_125, hz⟩
 replace hcx1 := Rep.mono hx90.1 hcx1
 replace ha4 := Rep.mono hx90.1 ha4
 replace hb24 := Rep.mono hx90.1 hb24
 replace hv67 := repL.mono hx90.1 hv67
 replace hE := Mm.ext.trans hE hx90
 replace hF11 := Mm.ext.trans hF11 hx90
 replace hF18 := Mm.ext.trans hF18 hx90
 replace hF35 := Mm.ext.trans hF35 hx90
 replace hF76 := Mm.ext.trans hF76 hx90
 replace hF84 := Mm.ext.trans hF84 hx90
 rw [isNode_j7] at hz
 refine W_reg <|WL_y (Y_move (.int .i64 x86) hT89_10) <|WL_y (Y_assign (.int .i64 x86) rfl) ?_
 refine WL_nil (nm_blk ?_)
 refine (nm_then ?_)
 exact ⟨M88, x86, hF84, hS, hT89_1, hT89_4, rfl, hT89_14, hT89_15, hT89_123, hT89_124, hT89_125, hz⟩
 rintro T81 w79 ⟨M80, y82, hx83, hS, hT81_1, hT81_4, hT81_8, hT81_14, hT81_15, hT81_123, hT81_124, hT81_125, hz⟩
 replace hcx1 := Rep.mono hx83.1 hcx1
 replace ha4 := Rep.mono hx83.1 ha4
 replace hb24 := Rep.mono hx83.1 hb24
 replace hv67 := repL.mono hx83.1 hv67
 replace hE := Mm.ext.trans hE hx83
 replace hF11 := Mm.ext.trans hF11 hx83
 replace hF18 := Mm.ext.trans hF18 hx83
 replace hF35 := Mm.ext.trans hF35 hx83
 replace hF76 := Mm.ext.trans hF76 hx83
 rw [isNode_j6] at hz
 refine W_reg <|WL_y (Y_add hT81_125 rfl) <|WL_y (Y_move (.int .i64 (IntKind.wrap .i64 (y73 + 1))) rfl) ?_
 refine WL_nil (nm_then ?_)
 exact ⟨M80, y82, (IntKind.wrap .i64 (y73 + 1)), hF76, hS, hT81_1, hT81_4, hT81_8, hT81_14, hT81_15, hT81_123, hT81_124, rfl, (by rw [← hrec74]; exact hz)⟩
 replace hz := bif_ok_f hz hc78
 refine W_exit <|ex_then <|ex_then <|ex_hit ?_
 refine (nm_blk ?_)
 refine (nm_then ?_)
 exact ⟨M70, hF18, (St.dropB hS hb22), hT71_1, hT71_14, hT71_15, hz⟩
 rintro T16 w14 ⟨M15, hx17, hS, hT16_1, hT16_14, hT16_15, hz⟩
 replace hcx1 := Rep.mono hx17.1 hcx1
 replace ha4 := Rep.mono hx17.1 ha4
 replace hE := Mm.ext.trans hE hx17
 replace hF11 := Mm.ext.trans hF11 hx17
 rw [isNode_j1] at hz
 refine W_reg <|WL_y (Y_add hT16_15 rfl) <|WL_y (Y_move (.int .i64 (IntKind.wrap .i64 (y8 + 1))) rfl) ?_
 refine WL_nil (nm_then ?_)
 exact ⟨M15, (IntKind.wrap .i64 (y8 + 1)), hF11, hS, hT16_1, hT16_14, rfl, (by rw [← hrec9]; exact hz)⟩
 replace hz := bif_ok_f hz hc13
 refine W_exit <|ex_then <|ex_then <|ex_hit ?_
 refine (nm_then ?_)
 refine W_seq <|W_seq <|W_reg <|WL_y (Y_fa fa48_1 hT7_1) ?_
 obtain ⟨v171, ev171, hv171⟩ := (GNode.p1 (rep_root (k := 201) rfl hcx1))
 refine WL_y (Y_ld1 v171 ts27 rfl (hS.bvB 0 rfl) ev171) ?_
 obtain ⟨a172, c172, hv172, _⟩ := repL_shape hv171
 refine WL_y (Y_lenL Try.underlying27 (tr2 hv172 rfl)) <|WL_y (Y_move (.int .i64 0) rfl) ?_
 refine WL_nil (nm_then ?_)
 refine W_block ?_
 refine W_loop (fun k178 T' w' => ∃ M174 y176, Mm.ext w.heap.size noX M6 M174 ∧ St w noX M174 [.box b3 cx1 48] w' ∧ T' 143 = v171 ∧ T' 144 = .int .i64 (x1.order.length : Int) ∧ T' 145 = .int .i64 y176 ∧ isNode_l4 x1 k178 y176 = some r) fu ?_ ?_ ?_
 exact ⟨M6, (0 : Int), (Mm.ext.refl _ _ _), hS, rfl, rfl, rfl, hz⟩
 rintro T' w' ⟨_, _, _, _, _, _, _, hz⟩
 rw [isNode_l4] at hz
 cases hz
 intro k178
 rintro T175 w173 ⟨M174, y176, hx180, hS, hT175_143, hT175_144, hT175_145, hz⟩
 replace hcx1 := Rep.mono hx180.1 hcx1
 replace hv171 := repL.mono hx180.1 hv171
 replace hE := Mm.ext.trans hE hx180
 replace hF11 := Mm.ext.trans hF11 hx180
 have hF179 := hx180
 rw [isNode_l4] at hz
 obtain ⟨rec177, hrec177⟩ : ∃ f, f = isNode_l4 x1 k178 := ⟨_, rfl⟩
 rw [← hrec177] at hz
 refine W_seq <|W_reg <|WL_y (Y_lss hT175_145 hT175_144) ?_
 refine WL_nil (nm_then ?_)
 refine W_seq ?_
 refine W_cond rfl (fun hc181 => ?_) (fun hc181 => ?_)
 replace hz := bif_ok_t hz hc181
 refine W_skip (nm_then ?_)
 refine W_seq <|W_block <|W_seq <|W_reg ?_
 obtain ⟨x183, hx182, hz⟩ := bind_ok hz
 obtain ⟨b182, o182, c182, p182, hv182, hi182, hj182, hM182, hr182⟩ := repL_at hv171 hx182
 replace hr182 : rep _ (sl p182 (o182 + Int.toNat y176 * 1) 1) x183 := hr182
 refine WL_y (Y_ixL il27 hT175_143 hv182 hT175_145 hi182 hj182) <|WL_y (Y_ld1 (.int .i64 x183) ts3 rfl (hS.bvM hM182) hr182) <|WL_y (Y_assign (.int .i64 x183) rfl) ?_
 refine WL_nil (nm_then ?_)
 refine W_seq <|W_reg <|WL_y (Y_move (.int .i64 x183) rfl) ?_
 obtain ⟨r186, hr185, hz⟩ := bind_ok hz
 replace hr185 := Option.some.inj hr185
 refine WL_c (O_val (vs := [.int .i64 x183]) (v := .bool r186) cb66 (args1 rfl) hS (hr185 ▸ (c_isTxn)) ?_)
 intro w184 hS
 refine WL_y (Y_not rfl) ?_
 refine WL_nil (nm_then ?_)
 refine W_cond rfl (fun hc187 => ?_) (fun hc187 => ?_)
 replace hz := bif_ok_t hz hc187
 refine W_seq <|W_reg <|WL_y (Y_assign (.bool false) rfl) ?_
 refine WL_nil (nm_then ?_)
 cases hz
 exact W_ret (rt_blk (rt_then (rt_then (rt_blk (rt_then (R_t1 rfl rfl ⟨rfl, (St.dropB hS hb3).kept⟩))))))
 replace hz := bif_ok_f hz hc187
 refine W_skip (nm_blk ?_)
 refine (nm_then ?_)
 refine W_reg <|WL_y (Y_add hT175_145 rfl) <|WL_y (Y_move (.int .i64 (IntKind.wrap .i64 (y176 + 1))) rfl) ?_
 refine WL_nil (nm_then ?_)
 exact ⟨M174, (IntKind.wrap .i64 (y176 + 1)), hF179, hS, hT175_143, hT175_144, rfl, (by rw [← hrec177]; exact hz)⟩
 replace hz := bif_ok_f hz hc181
 refine W_exit <|ex_then <|ex_then <|ex_hit ?_
 refine (nm_then ?_)
 refine W_seq <|W_reg <|WL_y (Y_assign (.bool true) rfl) ?_
 refine WL_nil (nm_then ?_)
 cases hz
 exact W_ret (R_t1 rfl rfl ⟨rfl, (St.dropB hS hb3).kept⟩)
def before_j1 (y13 : Int) (rec14 : (List Int) → Int → Option (List Int)) (l22 : List Int) : Option (List Int) :=
 rec14 l22 (IntKind.wrap .i64 (y13 + 1))
def before_j2 (l11 : List Int) (y13 : Int) (rec14 : (List Int) → Int → Option (List Int)) (c29 : Bool) : Option (List Int) :=
 (bif c29 then
 (app l11 ([y13] : List Int)).bind fun l36 =>
 before_j1 y13 rec14 l36
 else
 before_j1 y13 rec14 l11)
def before_l1 (x1 : GNode) (x2 : Int) (x3 : List GOp) (x4 : Int) : Nat → (List Int) → Int → Option (List Int)
 | 0, _, _ => none
 | n + 1, l11, y13 =>
 (bif decide (y13 < 32) then
 (bif y13 != x2 then
 (inR y13 32).bind fun _ =>
 (idxV x1.entries y13).bind fun x41 =>
 (bif decide (x41.state > 0) then
 (inR y13 32).bind fun _ =>
 (idxV x1.entries y13).bind fun x46 =>
 (some (conflictZ x46.ops x3 x4)).bind fun r51 =>
 before_j2 l11 y13 (before_l1 x1 x2 x3 x4 n) r51
 else
 before_j2 l11 y13 (before_l1 x1 x2 x3 x4 n) false)
 else
 before_j2 l11 y13 (before_l1 x1 x2 x3 x4 n) false)
 else
 some l11)
def beforeD (fu : Nat) (x1 : GNode) (x2 : Int) (x3 : List GOp) (x4 : Int) : Option (List Int) :=
 before_l1 x1 x2 x3 x4 fu ([] : List Int) 0
set_option maxRecDepth 100000 in
set_option maxHeartbeats 4000000 in
theorem before_ok {M : Mm} {w : World} {cx1 : List Value} {vx3 : Value} {x1 : GNode} {x2 : Int} {x3 : List GOp} {x4 : Int} {fu : Nat} {r : (List Int)} (hA : Agree M w) (hcx1 : rep M cx1 x1) (hvx3 : repL M vx3 x3) (hz : beforeD fu x1 x2 x3 x4 = some r) :
    Calls Try.prog 57 #[.agg cx1.toArray, .int .i64 x2, vx3, .int .i64 x4] w (Gives M w (fun M' u => repL M' u r)) := by
 refine calls_W Try.func57 rfl 41 rfl rfl (by kernel_rfl) fun T hT => ?_
 have hT_0 : T 0 = .agg cx1.toArray := hT 0
 have hT_1 : T 1 = .int .i64 x2 := hT 1
 have hT_2 : T 2 = vx3 := hT 2
 have hT_3 : T 3 = .int .i64 x4 := hT 3
 clear hT
 have hE := Mm.ext.refl w.heap.size noX M
 have hS : St w noX M [] w := St.start hA
 rw [beforeD] at hz
 refine W_seq <|W_reg ?_
 refine WL_c (O_box (v := .agg cx1.toArray) (cs := cx1) hT_0 rfl hS ?_)
 intro b6 w5 hb6 hS
 replace hS : St w noX M [.box b6 cx1 48] w5 := hS
 refine WL_y (Y_assign ((.slice none 0 0)) rfl) ?_
 refine WL_nil (nm_then ?_)
 refine W_seq <|W_reg <|WL_y (Y_assign ((.slice none 0 0)) rfl) ?_
 refine WL_nil (nm_then ?_)
 refine W_seq <|W_seq <|W_reg <|WL_y (Y_move (.int .i64 0) rfl) ?_
 refine WL_nil (nm_then ?_)
 refine W_block ?_
 replace hS := hS.nilRow 3 1
 replace hS : St w noX M [.row (.slice none 0 0) 3 1, .box b6 cx1 48] w5 := hS
 refine W_loop (fun k15 T' w' => ∃ M9 v12 l11 y13, Mm.ext w.heap.size noX M M9 ∧ St w noX M9 [.row v12 3 1, .box b6 cx1 48] w' ∧ repL M9 v12 l11 ∧ T' 1 = .int .i64 x2 ∧ T' 2 = vx3 ∧ T' 3 = .int .i64 x4 ∧ T' 4 = .pointer (some ⟨b6, 0, none⟩) ∧ T' 9 = v12 ∧ T' 11 = .int .i64 y13 ∧ before_l1 x1 x2 x3 x4 k15 l11 y13 = some r) fu ?_ ?_ ?_
 exact ⟨M, (.slice none 0 0), ([] : List Int), (0 : Int), (Mm.ext.refl _ _ _), hS, (repL_nil _), hT_1, hT_2, hT_3, rfl, rfl, rfl, hz⟩
 rintro T' w' ⟨_, _, _, _, _, _, _, _, _, _, _, _, _, hz⟩
 rw [before_l1] at hz
 cases hz
 intro k15
 rintro T10 w8 ⟨M9, v12, l11, y13, hx17, hS, hv12, hT10_1, hT10_2, hT10_3, hT10_4, hT10_9, hT10_11, hz⟩
 replace hcx1 := Rep.mono hx17.1 hcx1
 replace hvx3 := repL.mono hx17.1 hvx3
 replace hE := Mm.ext.trans hE hx17
 have hF16 := hx17
 rw [before_l1] at hz
 obtain ⟨rec14, hrec14⟩ : ∃ f, f = before_l1 x1 x2 x3 x4 k15 := ⟨_, rfl⟩
 rw [← hrec14] at hz
 refine W_seq <|W_reg <|WL_y (Y_lss hT10_11 rfl) ?_
 refine WL_nil (nm_then ?_)
 refine W_seq ?_
 refine W_cond rfl (fun hc18 => ?_) (fun hc18 => ?_)
 replace hz := bif_ok_t hz hc18
 refine W_skip (nm_then ?_)
 refine W_seqJ (fun T' w' => ∃ M20 v23 l22, Mm.ext w.heap.size noX M9 M20 ∧ St w noX M20 [.row v23 3 1, .box b6 cx1 48] w' ∧ repL M20 v23 l22 ∧ T' 1 = .int .i64 x2 ∧ T' 2 = vx3 ∧ T' 3 = .int .i64 x4 ∧ T' 4 = .pointer (some ⟨b6, 0, none⟩) ∧ T' 9 = v23 ∧ T' 11 = .int .i64 y13 ∧ before_j1 y13 rec14 l22 = some r) ?_ ?_
 have hF25 := Mm.ext.refl w.heap.size noX M9
 refine W_block <|W_seq <|W_reg <|WL_y (Y_move (.int .i64 y13) hT10_11) <|WL_y (Y_assign (.int .i64 y13) rfl) ?_
 refine WL_nil (nm_then ?_)
 refine W_seqJ (fun T' w' => ∃ M27 c29, Mm.ext w.heap.size noX M9 M27 ∧ St w noX M27 [.row v12 3 1, .box b6 cx1 48] w' ∧ T' 1 = .int .i64 x2 ∧ T' 2 = vx3 ∧ T' 3 = .int .i64 x4 ∧ T' 4 = .pointer (some ⟨b6, 0, none⟩) ∧ T' 9 = v12 ∧ T' 10 = .int .i64 y13 ∧ T' 11 = .int .i64 y13 ∧ T' 34 = .bool c29 ∧ before_j2 l11 y13 rec14 c29 = some r) ?_ ?_
 have hF37 := Mm.ext.refl w.heap.size noX M9
 refine W_reg <|WL_y (Y_move (.int .i64 y13) rfl) <|WL_y (Y_move (.int .i64 x2) hT10_1) <|WL_y (Y_neq rfl rfl) <|WL_y (Y_move (.bool (y13 != x2)) rfl) ?_
 rcases ic hz with ⟨hc38, hz⟩ | ⟨hc38, hz⟩ <;> rw [hc38]
 refine WL_gy rfl rfl (Y_move (.int .i64 y13) rfl) <|WL_gy rfl rfl (Y_fa fa48_0 hT10_4) ?_
 obtain ⟨u39, hx40, hz⟩ := bind_ok hz
 obtain ⟨hx40a, hx40b⟩ := inR_some hx40
 refine WL_gy rfl rfl (Y_ixA ia45 rfl rfl hx40a hx40b) <|WL_gy rfl rfl (Y_fa fa44_0 rfl) ?_
 obtain ⟨x41, hx42, hz⟩ := bind_ok hz
 refine WL_gy rfl rfl (Y_ld1 (.int .i64 x41.state) ts3 rfl (hS.bvB 1 rfl) (GEntry.p0 (vp (k := 6) rfl rfl (GNode.p0 (rep_root (k := 201) rfl hcx1)) hx42))) <|WL_gy rfl rfl (Y_gtr rfl rfl) <|WL_d 2 rfl ?_
 rcases ic hz with ⟨hc43, hz⟩ | ⟨hc43, hz⟩ <;> rw [hc43]
 refine WL_gy rfl rfl (Y_move (.int .i64 y13) rfl) <|WL_gy rfl rfl (Y_fa fa48_0 hT10_4) ?_
 obtain ⟨u44, hx45, hz⟩ := bind_ok hz
 obtain ⟨hx45a, hx45b⟩ := inR_some hx45
 refine WL_gy rfl rfl (Y_ixA ia45 rfl rfl hx45a hx45b) <|WL_gy rfl rfl (Y_fa fa44_1 rfl) ?_
 obtain ⟨x46, hx47, hz⟩ := bind_ok hz
 obtain ⟨v48, ev48, hv48⟩ := (GEntry.p1 (vp (k := 6) rfl rfl (GNode.p0 (rep_root (k := 201) rfl hcx1)) hx47))
 refine WL_gy rfl rfl (Y_ld1 v48 ts22 rfl (hS.bvB 1 rfl) ev48) <|WL_gy rfl rfl (Y_move (vx3) hT10_2) <|WL_gy rfl rfl (Y_move (.int .i64 x4) hT10_3) ?_
 obtain ⟨r51, hr50, hz⟩ := bind_ok hz
 replace hr50 := Option.some.inj hr50
 refine WL_g rfl rfl (O_val (vs := [v48, vx3, .int .i64 x4]) (v := .bool r51) cb77 (args3 rfl rfl rfl) hS (hr50 ▸ (c_inWay hS.agree hv48 hvx3)) ?_)
 intro w49 hS
 refine WL_y (Y_pick_t (.bool r51) rfl rfl) ?_
 refine WL_nil (nm_then ?_)
 exact ⟨M9, r51, hF37, hS, hT10_1, hT10_2, hT10_3, hT10_4, hT10_9, rfl, hT10_11, rfl, hz⟩
 refine WL_d 9 rfl ?_
 refine WL_nil (nm_then ?_)
 exact ⟨M9, false, hF37, hS, hT10_1, hT10_2, hT10_3, hT10_4, hT10_9, rfl, hT10_11, rfl, hz⟩
 refine WL_d 17 rfl ?_
 refine WL_nil (nm_then ?_)
 exact ⟨M9, false, hF37, hS, hT10_1, hT10_2, hT10_3, hT10_4, hT10_9, rfl, hT10_11, rfl, hz⟩
 rintro T28 w26 ⟨M27, c29, hx30, hS, hT28_1, hT28_2, hT28_3, hT28_4, hT28_9, hT28_10, hT28_11, hT28_34, hz⟩
 replace hcx1 := Rep.mono hx30.1 hcx1
 replace hvx3 := repL.mono hx30.1 hvx3
 replace hv12 := repL.mono hx30.1 hv12
 replace hE := Mm.ext.trans hE hx30
 replace hF16 := Mm.ext.trans hF16 hx30
 replace hF25 := Mm.ext.trans hF25 hx30
 rw [before_j2] at hz
 refine W_cond hT28_34 (fun hc31 => ?_) (fun hc31 => ?_)
 replace hz := bif_ok_t hz hc31
 refine W_reg <|WL_y (Y_move (v12) hT28_9) <|WL_y (Y_move (.int .i64 y13) hT28_10) ?_
 refine WL_c (O_bslice (α := Int) (l := ([y13] : List Int)) [.int .i64 y13] tl27 (bpc rfl bp0) rfl rfl (by decide) (by decide) (by decide) hS (brc (show rep M27 [Value.int .i64 y13] (y13 : Int) from rfl) br0) ?_)
 intro v33 M33 w32 hx33 hv33 hS
 replace hcx1 := Rep.mono hx33.1 hcx1
 replace hvx3 := repL.mono hx33.1 hvx3
 replace hv12 := repL.mono hx33.1 hv12
 replace hE := Mm.ext.trans hE hx33
 replace hF16 := Mm.ext.trans hF16 hx33
 replace hF25 := Mm.ext.trans hF25 hx33
 obtain ⟨l36, hr35, hz⟩ := bind_ok hz
 obtain ⟨hy35, hs35⟩ := app_some hr35
 refine WL_c (O_app (α := Int) (j := 0) tp27 hS rfl rfl rfl hv12 hv33 hy35 ?_)
 intro v35 M35 w34 hx35 hv35 hS
 rw [← hs35] at hv35
 clear hr35 hs35
 replace hcx1 := Rep.mono hx35.1 hcx1
 replace hvx3 := repL.mono hx35.1 hvx3
 replace hv12 := repL.mono hx35.1 hv12
 replace hv33 := repL.mono hx35.1 hv33
 replace hE := Mm.ext.trans hE hx35
 replace hF16 := Mm.ext.trans hF16 hx35
 replace hF25 := Mm.ext.trans hF25 hx35
 replace hS : St w noX M35 [.row v35 3 1, .box b6 cx1 48] w34 := hS
 refine WL_y (Y_assign (v35) rfl) ?_
 refine WL_nil (nm_blk ?_)
 refine (nm_then ?_)
 exact ⟨M35, v35, l36, hF25, hS, hv35, hT28_1, hT28_2, hT28_3, hT28_4, rfl, hT28_11, hz⟩
 replace hz := bif_ok_f hz hc31
 refine W_skip (nm_blk ?_)
 refine (nm_then ?_)
 exact ⟨M27, v12, l11, hF25, hS, hv12, hT28_1, hT28_2, hT28_3, hT28_4, hT28_9, hT28_11, hz⟩
 rintro T21 w19 ⟨M20, v23, l22, hx24, hS, hv23, hT21_1, hT21_2, hT21_3, hT21_4, hT21_9, hT21_11, hz⟩
 replace hcx1 := Rep.mono hx24.1 hcx1
 replace hvx3 := repL.mono hx24.1 hvx3
 replace hE := Mm.ext.trans hE hx24
 replace hF16 := Mm.ext.trans hF16 hx24
 rw [before_j1] at hz
 refine W_reg <|WL_y (Y_add hT21_11 rfl) <|WL_y (Y_move (.int .i64 (IntKind.wrap .i64 (y13 + 1))) rfl) ?_
 refine WL_nil (nm_then ?_)
 exact ⟨M20, v23, l22, (IntKind.wrap .i64 (y13 + 1)), hF16, hS, hv23, hT21_1, hT21_2, hT21_3, hT21_4, hT21_9, rfl, (by rw [← hrec14]; exact hz)⟩
 replace hz := bif_ok_f hz hc18
 refine W_exit <|ex_then <|ex_then <|ex_hit ?_
 refine (nm_then ?_)
 refine W_seq <|W_reg <|WL_y (Y_move (v12) hT10_9) <|WL_y (Y_assign (v12) rfl) ?_
 refine WL_nil (nm_then ?_)
 cases hz
 exact W_ret (R_t1 rfl rfl (Gives.mk (St.dropB (St.drop hS) hb6) hE hv12))
def graphOf_l1 (x1 : GNode) : Nat → GGraph → Int → Option GGraph
 | 0, _, _ => none
 | n + 1, d12, y13 =>
 (bif decide (y13 < 32) then
 (inR y13 32).bind fun _ =>
 (idxV x1.entries y13).bind fun x21 =>
 (inR y13 32).bind fun _ =>
 (idxV d12.known y13).bind fun x27 =>
 (setV d12.known y13 (decide (x21.state > 1))).bind fun a30 =>
 (some ({ d12 with known := a30 } : GGraph)).bind fun d32 =>
 (inR y13 32).bind fun _ =>
 (idxV x1.entries y13).bind fun x35 =>
 (inR y13 32).bind fun _ =>
 (idxV d32.deps y13).bind fun x42 =>
 (setV d32.deps y13 x35.deps).bind fun a45 =>
 (some ({ d32 with deps := a45 } : GGraph)).bind fun d47 =>
 (graphOf_l1 x1 n) d47 (IntKind.wrap .i64 (y13 + 1))
 else
 (some d12).bind fun d51 =>
 some d51)
def graphOfD (fu : Nat) (x1 : GNode) : Option GGraph :=
 graphOf_l1 x1 fu (Zr.zd : GGraph) 0
set_option maxRecDepth 100000 in
set_option maxHeartbeats 4000000 in
theorem graphOf_ok {M : Mm} {w : World} {cx1 : List Value} {x1 : GNode} {fu : Nat} {r : GGraph} (hA : Agree M w) (hcx1 : rep M cx1 x1) (hz : graphOfD fu x1 = some r) :
    Calls Try.prog 58 #[.agg cx1.toArray] w (Gives M w (fun M' u => ∃ cs, u = .agg cs.toArray ∧ rep M' cs r)) := by
 refine calls_W Try.func58 rfl 27 rfl rfl (by kernel_rfl) fun T hT => ?_
 have hT_0 : T 0 = .agg cx1.toArray := hT 0
 clear hT
 have hE := Mm.ext.refl w.heap.size noX M
 have hS : St w noX M [] w := St.start hA
 rw [graphOfD] at hz
 refine W_seq <|W_reg ?_
 refine WL_c (O_box (v := .agg cx1.toArray) (cs := cx1) hT_0 rfl hS ?_)
 intro b3 w2 hb3 hS
 replace hS : St w noX M [.box b3 cx1 48] w2 := hS
 refine WL_c (O_alloc tz64 hS ?_)
 intro b5 w4 hb5 hS
 replace hS : St w noX M [.box b5 (Zr.zc GGraph) 64, .box b3 cx1 48] w4 := hS
 have zb5 : rep M (Zr.zc GGraph) (Zr.zd : GGraph) := Zr.zr
 refine WL_nil (nm_then ?_)
 refine W_seq <|W_reg ?_
 refine WL_c (O_alloc tz64 hS ?_)
 intro b7 w6 hb7 hS
 replace hS : St w noX M [.box b7 (Zr.zc GGraph) 64, .box b5 (Zr.zc GGraph) 64, .box b3 cx1 48] w6 := hS
 have zb7 : rep M (Zr.zc GGraph) (Zr.zd : GGraph) := Zr.zr
 refine WL_nil (nm_then ?_)
 refine W_seq <|W_seq <|W_reg <|WL_y (Y_move (.int .i64 0) rfl) ?_
 refine WL_nil (nm_then ?_)
 refine W_block ?_
 refine W_loop (fun k15 T' w' => ∃ M9 cs11 d12 y13, Mm.ext w.heap.size noX M M9 ∧ St w noX M9 [.box b7 cs11 64, .box b5 (Zr.zc GGraph) 64, .box b3 cx1 48] w' ∧ rep M9 cs11 d12 ∧ T' 1 = .pointer (some ⟨b3, 0, none⟩) ∧ T' 2 = .pointer (some ⟨b5, 0, none⟩) ∧ T' 3 = .pointer (some ⟨b7, 0, none⟩) ∧ T' 5 = .int .i64 y13 ∧ graphOf_l1 x1 k15 d12 y13 = some r) fu ?_ ?_ ?_
 exact ⟨M, (Zr.zc GGraph), (Zr.zd : GGraph), (0 : Int), (Mm.ext.refl _ _ _), hS, zb7, rfl, rfl, rfl, rfl, hz⟩
 rintro T' w' ⟨_, _, _, _, _, _, _, _, _, _, _, hz⟩
 rw [graphOf_l1] at hz
 cases hz
 intro k15
 rintro T10 w8 ⟨M9, cs11, d12, y13, hx17, hS, hb11, hT10_1, hT10_2, hT10_3, hT10_5, hz⟩
 replace hcx1 := Rep.mono hx17.1 hcx1
 replace zb5 := Rep.mono hx17.1 zb5
 replace hE := Mm.ext.trans hE hx17
 have hF16 := hx17
 rw [graphOf_l1] at hz
 obtain ⟨rec14, hrec14⟩ : ∃ f, f = graphOf_l1 x1 k15 := ⟨_, rfl⟩
 rw [← hrec14] at hz
 refine W_seq <|W_reg <|WL_y (Y_lss hT10_5 rfl) ?_
 refine WL_nil (nm_then ?_)
 refine W_seq ?_
 refine W_cond rfl (fun hc18 => ?_) (fun hc18 => ?_)
 replace hz := bif_ok_t hz hc18
 refine W_skip (nm_then ?_)
 refine W_seq <|W_block <|W_seq <|W_reg <|WL_y (Y_move (.int .i64 y13) hT10_5) <|WL_y (Y_assign (.int .i64 y13) rfl) ?_
 refine WL_nil (nm_then ?_)
 refine W_seq <|W_reg <|WL_d 2 rfl <|WL_y (Y_fa fa48_0 hT10_1) ?_
 obtain ⟨u19, hx20, hz⟩ := bind_ok hz
 obtain ⟨hx20a, hx20b⟩ := inR_some hx20
 refine WL_y (Y_ixA ia45 rfl rfl hx20a hx20b) <|WL_y (Y_fa fa44_0 rfl) ?_
 obtain ⟨x21, hx22, hz⟩ := bind_ok hz
 refine WL_y (Y_ld1 (.int .i64 x21.state) ts3 rfl (hS.bvB 2 rfl) (GEntry.p0 (vp (k := 6) rfl rfl (GNode.p0 (rep_root (k := 201) rfl hcx1)) hx22))) <|WL_y (Y_gtr rfl rfl) <|WL_y (Y_fa fa64_0 hT10_3) ?_
 obtain ⟨u23, hx24, hz⟩ := bind_ok hz
 obtain ⟨hx24a, hx24b⟩ := inR_some hx24
 refine WL_y (Y_ixA ia61 rfl rfl hx24a hx24b) ?_
 obtain ⟨x27, hx28, hz⟩ := bind_ok hz
 have hw26 : ([.bool (decide (x21.state > 1))] : List Value).length = 1 := Rep.len (show rep M9 [Value.bool (decide (x21.state > 1))] (decide (x21.state > 1) : Bool) from rfl)
 have hl26 : (cs11).length = 64 := Rep.len hb11
 have hq29 := (idxV_some hx28)
 obtain ⟨a30, hx31, hz⟩ := bind_ok hz
 obtain ⟨d32, hd26, hz⟩ := bind_ok hz
 have hb26 : rep M9 (pt cs11 (0 + 0 + Int.toNat y13 * 1) [.bool (decide (x21.state > 1))]) d32 := rep_eq (rep_whole (k := 64) (by rw [pt_length (by omega)]; exact hl26) (GGraph.s0 (rep_root (k := 64) rfl hb11) (vs (k := 1) rfl rfl (GGraph.p0 (rep_root (k := 64) rfl hb11)) (rep_leaf rfl (show rep M9 [Value.bool (decide (x21.state > 1))] (decide (x21.state > 1) : Bool) from rfl) (by omega)) hx31 (by omega) (by omega) (by omega)) (by omega) (by omega) (by omega))) hd26
 generalize hg26 : (pt cs11 (0 + 0 + Int.toNat y13 * 1) [.bool (decide (x21.state > 1))]) = cs26 at hb26
 refine WL_c (O_st (j := 0) (v := .bool (decide (x21.state > 1))) (ws := [.bool (decide (x21.state > 1))]) hS rfl (by kernel_rfl) rfl rfl rfl hw26 (Rep.one (show rep M9 [Value.bool (decide (x21.state > 1))] (decide (x21.state > 1) : Bool) from rfl)) (by omega) ?_)
 rw [hg26]
 clear hg26
 intro w25 hS
 replace hS : St w noX M9 [.box b7 cs26 64, .box b5 (Zr.zc GGraph) 64, .box b3 cx1 48] w25 := hS
 refine WL_nil (nm_then ?_)
 refine W_reg <|WL_d 2 rfl <|WL_y (Y_fa fa48_0 hT10_1) ?_
 obtain ⟨u33, hx34, hz⟩ := bind_ok hz
 obtain ⟨hx34a, hx34b⟩ := inR_some hx34
 refine WL_y (Y_ixA ia45 rfl rfl hx34a hx34b) <|WL_y (Y_fa fa44_3 rfl) ?_
 obtain ⟨x35, hx36, hz⟩ := bind_ok hz
 obtain ⟨v37, ev37, hv37⟩ := (GEntry.p3 (vp (k := 6) rfl rfl (GNode.p0 (rep_root (k := 201) rfl hcx1)) hx36))
 refine WL_y (Y_ld1 v37 ts27 rfl (hS.bvB 2 rfl) ev37) <|WL_y (Y_fa fa64_1 hT10_3) ?_
 obtain ⟨u38, hx39, hz⟩ := bind_ok hz
 obtain ⟨hx39a, hx39b⟩ := inR_some hx39
 refine WL_y (Y_ixA ia62 rfl rfl hx39a hx39b) ?_
 obtain ⟨x42, hx43, hz⟩ := bind_ok hz
 have hw41 : ([v37] : List Value).length = 1 := Rep.len (repL_rep hv37)
 have hl41 : (cs26).length = 64 := Rep.len hb26
 have hq44 := (idxV_some hx43)
 obtain ⟨a45, hx46, hz⟩ := bind_ok hz
 obtain ⟨d47, hd41, hz⟩ := bind_ok hz
 have hb41 : rep M9 (pt cs26 (0 + 32 + Int.toNat y13 * 1) [v37]) d47 := rep_eq (rep_whole (k := 64) (by rw [pt_length (by omega)]; exact hl41) (GGraph.s1 (rep_root (k := 64) rfl hb26) (vs (k := 1) rfl rfl (GGraph.p1 (rep_root (k := 64) rfl hb26)) (rep_leaf rfl (repL_rep hv37) (by omega)) hx46 (by omega) (by omega) (by omega)) (by omega) (by omega) (by omega))) hd41
 generalize hg41 : (pt cs26 (0 + 32 + Int.toNat y13 * 1) [v37]) = cs41 at hb41
 refine WL_c (O_st (j := 0) (v := v37) (ws := [v37]) hS rfl (by kernel_rfl) rfl rfl (repL_cells hv37) hw41 (Rep.one (repL_rep hv37)) (by omega) ?_)
 rw [hg41]
 clear hg41
 intro w40 hS
 replace hS : St w noX M9 [.box b7 cs41 64, .box b5 (Zr.zc GGraph) 64, .box b3 cx1 48] w40 := hS
 refine WL_nil (nm_blk ?_)
 refine (nm_then ?_)
 refine W_reg <|WL_y (Y_add hT10_5 rfl) <|WL_y (Y_move (.int .i64 (IntKind.wrap .i64 (y13 + 1))) rfl) ?_
 refine WL_nil (nm_then ?_)
 exact ⟨M9, cs41, d47, (IntKind.wrap .i64 (y13 + 1)), hF16, hS, hb41, hT10_1, hT10_2, hT10_3, rfl, (by rw [← hrec14]; exact hz)⟩
 replace hz := bif_ok_f hz hc18
 refine W_exit <|ex_then <|ex_then <|ex_hit ?_
 refine (nm_then ?_)
 refine W_seq <|W_reg ?_
 have ha48 := (rep_root (k := 64) rfl hb11)
 refine WL_y (Y_ldn ta64 hT10_3 (hS.bvB 0 rfl) (Rep.len ha48)) ?_
 have hw50 : ((sl cs11 (0) 64) : List Value).length = 64 := Rep.len ha48
 have hl50 : ((Zr.zc GGraph)).length = 64 := Rep.len zb5
 obtain ⟨d51, hd50, hz⟩ := bind_ok hz
 have hb50 : rep M9 (pt (Zr.zc GGraph) (0) (sl cs11 (0) 64)) d51 := rep_eq (rep_whole (k := 64) (by rw [pt_length (by omega)]; exact hl50) (rep_leaf rfl ha48 (by omega))) hd50
 generalize hg50 : (pt (Zr.zc GGraph) (0) (sl cs11 (0) 64)) = cs50 at hb50
 refine WL_c (O_st (j := 1) (v := .agg (sl cs11 (0) 64).toArray) (ws := (sl cs11 (0) 64)) hS rfl (by kernel_rfl) hT10_2 rfl rfl hw50 (Rep.one ha48) (by omega) ?_)
 rw [hg50]
 clear hg50
 intro w49 hS
 replace hS : St w noX M9 [.box b7 cs11 64, .box b5 cs50 64, .box b3 cx1 48] w49 := hS
 refine WL_nil (nm_then ?_)
 cases hz
 exact W_ret (R_c (j := 1) rfl hT10_2 (by rw [Rep.len hb50]; exact ta64) hS rfl (Gives.mk (St.dropB (St.dropB (St.dropB hS hb7) hb5) hb3) hE ⟨_, rfl, hb50⟩))
def executeOne_j1 (y48 : Int) (rec49 : GEntry → GNode → Int → Option GNode) (d58 : GEntry) (d60 : GNode) : Option GNode :=
 rec49 d58 d60 (IntKind.wrap .i64 (y48 + 1))
def executeOne_j2 (y48 : Int) (rec49 : GEntry → GNode → Int → Option GNode) (d105 : GNode) (d112 : GEntry) : Option GNode :=
 executeOne_j1 y48 rec49 d112 d105
def executeOne_l1 (x3 : Int) (x4 : Int) (d30 : GEntry) : Nat → GEntry → GNode → Int → Option GNode
 | 0, _, _, _ => none
 | n + 1, d39, d41, y48 =>
 (bif decide (y48 < (d30.ops.length : Int)) then
 (idx d30.ops y48).bind fun x70 =>
 (some x70).bind fun d76 =>
 (some (shardZ d76.key)).bind fun r79 =>
 (bif r79 != x4 then
 executeOne_j1 y48 (executeOne_l1 x3 x4 d30 n) d39 d41
 else
 (inR d76.key 8).bind fun _ =>
 (idxV d41.values d76.key).bind fun x86 =>
 (some (doZ x86 d76)).bind fun r91 =>
 (inR d76.key 8).bind fun _ =>
 (idxV d41.values d76.key).bind fun x100 =>
 (setV d41.values d76.key r91).bind fun a103 =>
 (some ({ d41 with values := a103 } : GNode)).bind fun d105 =>
 (app d39.at_ ([y48] : List Int)).bind fun l128 =>
 (app d39.values ([r91] : List Int)).bind fun l133 =>
 (some ({ d39 with at_ := l128 } : GEntry)).bind fun d136 =>
 (some ({ d136 with values := l133 } : GEntry)).bind fun d141 =>
 executeOne_j2 y48 (executeOne_l1 x3 x4 d30 n) d105 d141)
 else
 (inR x3 32).bind fun _ =>
 (idxV d41.entries x3).bind fun x165 =>
 (setV d41.entries x3 d39).bind fun a168 =>
 (some ({ d41 with entries := a168 } : GNode)).bind fun d170 =>
 (app d170.order ([x3] : List Int)).bind fun l180 =>
 (some ({ d170 with order := l180 } : GNode)).bind fun d183 =>
 some d183)
def executeOneD (fu : Nat) (x1 : GNode) (x3 : Int) (x4 : Int) : Option GNode :=
 (inR x3 32).bind fun _ =>
 (idxV x1.entries x3).bind fun x7 =>
 (some x7).bind fun d18 =>
 (some ({ d18 with state := 3 } : GEntry)).bind fun d21 =>
 (some ({ d21 with at_ := [] } : GEntry)).bind fun d25 =>
 (some ({ d25 with values := [] } : GEntry)).bind fun d30 =>
 executeOne_l1 x3 x4 d30 fu d30 x1 0
set_option maxRecDepth 100000 in
set_option maxHeartbeats 4000000 in
theorem executeOne_ok {M : Mm} {w : World} {bx1 : Nat} {cx1 : List Value} {ux1_1 : Value} {x1 : GNode} {x3 : Int} {x4 : Int} {fu : Nat} {r : GNode} (hS : St w (lentX [.box bx1 cx1 48, .row ux1_1 3 1]) M [.box bx1 cx1 48, .row ux1_1 3 1] w) (hcx1 : rep M cx1 x1) (hpx1_1 : sl cx1 192 1 = [ux1_1]) (hz : executeOneD fu x1 x3 x4 = some r) :
    Calls Try.prog 60 #[.pointer (some ⟨bx1, 0, none⟩), .int .i64 x3, .int .i64 x4] w (GivesL M w [.box bx1 cx1 48, .row ux1_1 3 1] (fun M' u L' => ∃ k0 u1, u = .tuple #[] ∧ L' = [.box bx1 k0 48, .row u1 3 1] ∧ rep M' k0 r ∧ sl k0 192 1 = [u1])) := by
 refine calls_W Try.func60 rfl 77 rfl rfl (by kernel_rfl) fun T hT => ?_
 have hT_0 : T 0 = .pointer (some ⟨bx1, 0, none⟩) := hT 0
 have hT_1 : T 1 = .int .i64 x3 := hT 1
 have hT_2 : T 2 = .int .i64 x4 := hT 2
 clear hT
 have hE := Mm.ext.refl w.heap.size (lentX [.box bx1 cx1 48, .row ux1_1 3 1]) M
 rw [executeOneD] at hz
 refine W_seq <|W_reg <|WL_y (Y_move (.pointer (some ⟨bx1, 0, none⟩)) hT_0) <|WL_y (Y_move (.int .i64 x3) hT_1) <|WL_y (Y_nil rfl) <|WL_y (Y_fa fa48_0 rfl) ?_
 obtain ⟨u5, hx6, hz⟩ := bind_ok hz
 obtain ⟨hx6a, hx6b⟩ := inR_some hx6
 refine WL_y (Y_ixA ia45 rfl rfl hx6a hx6b) ?_
 obtain ⟨x7, hx8, hz⟩ := bind_ok hz
 have ha9 := (vp (k := 6) rfl rfl (GNode.p0 (rep_root (k := 201) rfl hcx1)) hx8)
 refine WL_y (Y_ldn ta44 rfl (hS.bvB 0 rfl) (Rep.len ha9)) ?_
 refine WL_c (O_alloc tz44 hS ?_)
 intro b11 w10 hb11 hS
 replace hS : St w (lentX [.box bx1 cx1 48, .row ux1_1 3 1]) M [.box b11 (Zr.zc GEntry) 44, .box bx1 cx1 48, .row ux1_1 3 1] w10 := hS
 have zb11 : rep M (Zr.zc GEntry) (Zr.zd : GEntry) := Zr.zr
 have hp12 : sl (Zr.zc GEntry) 4 1 = [.slice none 0 0] := by rfl
 replace hS := hS.nilRow 3 1
 replace hS : St w (lentX [.box bx1 cx1 48, .row ux1_1 3 1]) M [.row (.slice none 0 0) 3 1, .box b11 (Zr.zc GEntry) 44, .box bx1 cx1 48, .row ux1_1 3 1] w10 := hS
 have hp14 : sl (Zr.zc GEntry) 5 1 = [.slice none 0 0] := by rfl
 replace hS := hS.nilRow 3 1
 replace hS : St w (lentX [.box bx1 cx1 48, .row ux1_1 3 1]) M [.row (.slice none 0 0) 3 1, .row (.slice none 0 0) 3 1, .box b11 (Zr.zc GEntry) 44, .box bx1 cx1 48, .row ux1_1 3 1] w10 := hS
 have hw17 : ((sl cx1 (0 + 0 + Int.toNat x3 * 6) 6) : List Value).length = 6 := Rep.len ha9
 have hl17 : ((Zr.zc GEntry)).length = 6 := Rep.len zb11
 obtain ⟨d18, hd17, hz⟩ := bind_ok hz
 have hb17 : rep M (pt (Zr.zc GEntry) (0) (sl cx1 (0 + 0 + Int.toNat x3 * 6) 6)) d18 := rep_eq (rep_whole (k := 6) (by rw [pt_length (by omega)]; exact hl17) (rep_leaf rfl ha9 (by omega))) hd17
 generalize hg17 : (pt (Zr.zc GEntry) (0) (sl cx1 (0 + 0 + Int.toNat x3 * 6) 6)) = cs17 at hb17
 refine WL_c (O_st (j := 2) (v := .agg (sl cx1 (0 + 0 + Int.toNat x3 * 6) 6).toArray) (ws := (sl cx1 (0 + 0 + Int.toNat x3 * 6) 6)) hS rfl (by kernel_rfl) rfl rfl rfl hw17 (Rep.one ha9) (by omega) ?_)
 rw [hg17]
 clear hg17
 intro w16 hS
 replace hS : St w (lentX [.box bx1 cx1 48, .row ux1_1 3 1]) M [.row (.slice none 0 0) 3 1, .row (.slice none 0 0) 3 1, .box b11 cs17 44, .box bx1 cx1 48, .row ux1_1 3 1] w16 := hS
 refine WL_nil (nm_then ?_)
 refine W_seq <|W_reg <|WL_y (Y_fa fa44_0 rfl) ?_
 have hw20 : ([.int .i64 3] : List Value).length = 1 := Rep.len (show rep M [Value.int .i64 3] (3 : Int) from rfl)
 have hl20 : (cs17).length = 6 := Rep.len hb17
 obtain ⟨d21, hd20, hz⟩ := bind_ok hz
 have hb20 : rep M (pt cs17 (0 + 0) [.int .i64 3]) d21 := rep_eq (rep_whole (k := 6) (by rw [pt_length (by omega)]; exact hl20) (GEntry.s0 (rep_root (k := 6) rfl hb17) (rep_leaf rfl (show rep M [Value.int .i64 3] (3 : Int) from rfl) (by omega)) (by omega) (by omega) (by omega))) hd20
 generalize hg20 : (pt cs17 (0 + 0) [.int .i64 3]) = cs20 at hb20
 refine WL_c (O_st (j := 2) (v := .int .i64 3) (ws := [.int .i64 3]) hS rfl (by kernel_rfl) rfl rfl rfl hw20 (Rep.one (show rep M [Value.int .i64 3] (3 : Int) from rfl)) (by omega) ?_)
 rw [hg20]
 clear hg20
 intro w19 hS
 replace hS : St w (lentX [.box bx1 cx1 48, .row ux1_1 3 1]) M [.row (.slice none 0 0) 3 1, .row (.slice none 0 0) 3 1, .box b11 cs20 44, .box bx1 cx1 48, .row ux1_1 3 1] w19 := hS
 refine WL_y (Y_fa fa44_4 rfl) ?_
 replace hS := hS.nilRow 3 1
 replace hS : St w (lentX [.box bx1 cx1 48, .row ux1_1 3 1]) M [.row (.slice none 0 0) 3 1, .row (.slice none 0 0) 3 1, .row (.slice none 0 0) 3 1, .box b11 cs20 44, .box bx1 cx1 48, .row ux1_1 3 1] w19 := hS
 have hw24 : ([.slice none 0 0] : List Value).length = 1 := Rep.len (show rep M [Value.slice none 0 0] ([] : List Int) from repL_rep (repL_nil _))
 have hl24 : (cs20).length = 6 := Rep.len hb20
 obtain ⟨d25, hd24, hz⟩ := bind_ok hz
 have hb24 : rep M (pt cs20 (0 + 4) [.slice none 0 0]) d25 := rep_eq (rep_whole (k := 6) (by rw [pt_length (by omega)]; exact hl24) (GEntry.s4 (rep_root (k := 6) rfl hb20) (rep_leaf rfl (show rep M [Value.slice none 0 0] ([] : List Int) from repL_rep (repL_nil _)) (by omega)) (by omega) (by omega) (by omega))) hd24
 have hp26 : sl (pt cs20 (0 + 4) [.slice none 0 0]) (0 + 4) 1 = [(.slice none 0 0)] := sl_pt_same (by omega) rfl
 generalize hg24 : (pt cs20 (0 + 4) [.slice none 0 0]) = cs24 at hb24 hp26
 refine WL_c (O_st (j := 3) (v := (.slice none 0 0)) (ws := [.slice none 0 0]) hS rfl (by kernel_rfl) rfl rfl rfl hw24 (Rep.one (show rep M [Value.slice none 0 0] ([] : List Int) from repL_rep (repL_nil _))) (by omega) ?_)
 rw [hg24]
 clear hg24
 intro w22 hS
 replace hS : St w (lentX [.box bx1 cx1 48, .row ux1_1 3 1]) M [.row (.slice none 0 0) 3 1, .row (.slice none 0 0) 3 1, .row (.slice none 0 0) 3 1, .box b11 cs24 44, .box bx1 cx1 48, .row ux1_1 3 1] w22 := hS
 refine WL_y (Y_fa fa44_5 rfl) ?_
 replace hS := hS.nilRow 3 1
 replace hS : St w (lentX [.box bx1 cx1 48, .row ux1_1 3 1]) M [.row (.slice none 0 0) 3 1, .row (.slice none 0 0) 3 1, .row (.slice none 0 0) 3 1, .row (.slice none 0 0) 3 1, .box b11 cs24 44, .box bx1 cx1 48, .row ux1_1 3 1] w22 := hS
 have hw29 : ([.slice none 0 0] : List Value).length = 1 := Rep.len (show rep M [Value.slice none 0 0] ([] : List Int) from repL_rep (repL_nil _))
 have hl29 : (cs24).length = 6 := Rep.len hb24
 obtain ⟨d30, hd29, hz⟩ := bind_ok hz
 have hb29 : rep M (pt cs24 (0 + 5) [.slice none 0 0]) d30 := rep_eq (rep_whole (k := 6) (by rw [pt_length (by omega)]; exact hl29) (GEntry.s5 (rep_root (k := 6) rfl hb24) (rep_leaf rfl (show rep M [Value.slice none 0 0] ([] : List Int) from repL_rep (repL_nil _)) (by omega)) (by omega) (by omega) (by omega))) hd29
 have hp31 : sl (pt cs24 (0 + 5) [.slice none 0 0]) (0 + 4) 1 = [(.slice none 0 0)] := (sl_pt_apart (by omega) (by omega)).trans hp26
 have hp32 : sl (pt cs24 (0 + 5) [.slice none 0 0]) (0 + 5) 1 = [(.slice none 0 0)] := sl_pt_same (by omega) rfl
 generalize hg29 : (pt cs24 (0 + 5) [.slice none 0 0]) = cs29 at hb29 hp31 hp32
 refine WL_c (O_st (j := 4) (v := (.slice none 0 0)) (ws := [.slice none 0 0]) hS rfl (by kernel_rfl) rfl rfl rfl hw29 (Rep.one (show rep M [Value.slice none 0 0] ([] : List Int) from repL_rep (repL_nil _))) (by omega) ?_)
 rw [hg29]
 clear hg29
 intro w27 hS
 replace hS : St w (lentX [.box bx1 cx1 48, .row ux1_1 3 1]) M [.row (.slice none 0 0) 3 1, .row (.slice none 0 0) 3 1, .row (.slice none 0 0) 3 1, .row (.slice none 0 0) 3 1, .box b11 cs29 44, .box bx1 cx1 48, .row ux1_1 3 1] w27 := hS
 refine WL_nil (nm_then ?_)
 refine W_seq <|W_seq <|W_reg <|WL_y (Y_fa fa44_1 rfl) ?_
 obtain ⟨v33, ev33, hv33⟩ := (GEntry.p1 (rep_root (k := 6) rfl hb29))
 refine WL_y (Y_ld1 v33 ts22 rfl (hS.bvB 4 rfl) ev33) ?_
 obtain ⟨a34, c34, hv34, _⟩ := repL_shape hv33
 refine WL_y (Y_lenL Try.underlying22 (tr2 hv34 rfl)) <|WL_y (Y_move (.int .i64 0) rfl) ?_
 refine WL_nil (nm_then ?_)
 refine W_block ?_
 refine W_loop (fun k50 T' w' => ∃ M36 cs38 d39 cs40 d41 v42 v44 v46 y48, Mm.ext w.heap.size (lentX [.box bx1 cx1 48, .row ux1_1 3 1]) M M36 ∧ St w (lentX [.box bx1 cx1 48, .row ux1_1 3 1]) M36 [.row v46 3 1, .row v44 3 1, .row (.slice none 0 0) 3 1, .row (.slice none 0 0) 3 1, .box b11 cs38 44, .box bx1 cs40 48, .row v42 3 1] w' ∧ rep M36 cs38 d39 ∧ rep M36 cs40 d41 ∧ sl cs40 (0 + 192) 1 = [v42] ∧ sl cs38 (0 + 4) 1 = [v44] ∧ sl cs38 (0 + 5) 1 = [v46] ∧ T' 0 = .pointer (some ⟨bx1, 0, none⟩) ∧ T' 1 = .int .i64 x3 ∧ T' 2 = .int .i64 x4 ∧ T' 6 = .pointer (some ⟨b11, 0, none⟩) ∧ T' 20 = v33 ∧ T' 21 = .int .i64 (d30.ops.length : Int) ∧ T' 22 = .int .i64 y48 ∧ executeOne_l1 x3 x4 d30 k50 d39 d41 y48 = some r) fu ?_ ?_ ?_
 exact ⟨M, cs29, d30, cx1, x1, ux1_1, (.slice none 0 0), (.slice none 0 0), (0 : Int), (Mm.ext.refl _ _ _), hS, hb29, hcx1, hpx1_1, hp31, hp32, hT_0, hT_1, hT_2, rfl, rfl, rfl, rfl, hz⟩
 rintro T' w' ⟨_, _, _, _, _, _, _, _, _, _, _, _, _, _, _, _, _, _, _, _, _, _, _, hz⟩
 rw [executeOne_l1] at hz
 cases hz
 intro k50
 rintro T37 w35 ⟨M36, cs38, d39, cs40, d41, v42, v44, v46, y48, hx52, hS, hb38, hb40, hp43, hp45, hp47, hT37_0, hT37_1, hT37_2, hT37_6, hT37_20, hT37_21, hT37_22, hz⟩
 replace hv33 := repL.mono hx52.1 hv33
 replace hE := Mm.ext.trans hE hx52
 have hF51 := hx52
 rw [executeOne_l1] at hz
 obtain ⟨rec49, hrec49⟩ : ∃ f, f = executeOne_l1 x3 x4 d30 k50 := ⟨_, rfl⟩
 rw [← hrec49] at hz
 refine W_seq <|W_reg <|WL_y (Y_lss hT37_22 hT37_21) ?_
 refine WL_nil (nm_then ?_)
 refine W_seq ?_
 refine W_cond rfl (fun hc53 => ?_) (fun hc53 => ?_)
 replace hz := bif_ok_t hz hc53
 refine W_skip (nm_then ?_)
 refine W_seqJ (fun T' w' => ∃ M55 cs57 d58 cs59 d60 v61 v63 v65, Mm.ext w.heap.size (lentX [.box bx1 cx1 48, .row ux1_1 3 1]) M36 M55 ∧ St w (lentX [.box bx1 cx1 48, .row ux1_1 3 1]) M55 [.row v65 3 1, .row v63 3 1, .row (.slice none 0 0) 3 1, .row (.slice none 0 0) 3 1, .box b11 cs57 44, .box bx1 cs59 48, .row v61 3 1] w' ∧ rep M55 cs57 d58 ∧ rep M55 cs59 d60 ∧ sl cs59 (0 + 192) 1 = [v61] ∧ sl cs57 (0 + 4) 1 = [v63] ∧ sl cs57 (0 + 5) 1 = [v65] ∧ T' 0 = .pointer (some ⟨bx1, 0, none⟩) ∧ T' 1 = .int .i64 x3 ∧ T' 2 = .int .i64 x4 ∧ T' 6 = .pointer (some ⟨b11, 0, none⟩) ∧ T' 20 = v33 ∧ T' 21 = .int .i64 (d30.ops.length : Int) ∧ T' 22 = .int .i64 y48 ∧ executeOne_j1 y48 rec49 d58 d60 = some r) ?_ ?_
 have hF68 := Mm.ext.refl w.heap.size (lentX [.box bx1 cx1 48, .row ux1_1 3 1]) M36
 refine W_block <|W_seq <|W_reg <|WL_y (Y_move (.int .i64 y48) hT37_22) ?_
 obtain ⟨x70, hx69, hz⟩ := bind_ok hz
 obtain ⟨b69, o69, c69, p69, hv69, hi69, hj69, hM69, hr69⟩ := repL_at hv33 hx69
 replace hr69 : rep _ (sl p69 (o69 + Int.toNat y48 * 3) 3) x70 := hr69
 refine WL_y (Y_ixL il22 hT37_20 hv69 hT37_22 hi69 hj69) ?_
 have ha71 := hr69
 refine WL_y (Y_ldn ta78 rfl (hS.bvM hM69) (Rep.len ha71)) ?_
 refine WL_c (O_alloc tz78 hS ?_)
 intro b73 w72 hb73 hS
 replace hS : St w (lentX [.box bx1 cx1 48, .row ux1_1 3 1]) M36 [.box b73 (Zr.zc GOp) 78, .row v46 3 1, .row v44 3 1, .row (.slice none 0 0) 3 1, .row (.slice none 0 0) 3 1, .box b11 cs38 44, .box bx1 cs40 48, .row v42 3 1] w72 := hS
 have zb73 : rep M36 (Zr.zc GOp) (Zr.zd : GOp) := Zr.zr
 refine WL_y (Y_assign (.int .i64 y48) rfl) ?_
 have hw75 : ((sl p69 (o69 + Int.toNat y48 * 3) 3) : List Value).length = 3 := Rep.len ha71
 have hl75 : ((Zr.zc GOp)).length = 3 := Rep.len zb73
 obtain ⟨d76, hd75, hz⟩ := bind_ok hz
 have hb75 : rep M36 (pt (Zr.zc GOp) (0) (sl p69 (o69 + Int.toNat y48 * 3) 3)) d76 := rep_eq (rep_whole (k := 3) (by rw [pt_length (by omega)]; exact hl75) (rep_leaf rfl ha71 (by omega))) hd75
 generalize hg75 : (pt (Zr.zc GOp) (0) (sl p69 (o69 + Int.toNat y48 * 3) 3)) = cs75 at hb75
 refine WL_c (O_st (j := 0) (v := .agg (sl p69 (o69 + Int.toNat y48 * 3) 3).toArray) (ws := (sl p69 (o69 + Int.toNat y48 * 3) 3)) hS rfl (by kernel_rfl) rfl rfl rfl hw75 (Rep.one ha71) (by omega) ?_)
 rw [hg75]
 clear hg75
 intro w74 hS
 replace hS : St w (lentX [.box bx1 cx1 48, .row ux1_1 3 1]) M36 [.box b73 cs75 78, .row v46 3 1, .row v44 3 1, .row (.slice none 0 0) 3 1, .row (.slice none 0 0) 3 1, .box b11 cs38 44, .box bx1 cs40 48, .row v42 3 1] w74 := hS
 refine WL_nil (nm_then ?_)
 refine W_seq <|W_seq <|W_reg <|WL_y (Y_fa fa78_1 rfl) <|WL_y (Y_ld1 (.int .i64 d76.key) ts3 rfl (hS.bvB 0 rfl) (GOp.p1 (rep_root (k := 3) rfl hb75))) ?_
 obtain ⟨r79, hr78, hz⟩ := bind_ok hz
 replace hr78 := Option.some.inj hr78
 refine WL_c (O_val (vs := [.int .i64 d76.key]) (v := .int .i64 r79) cb76 (args1 rfl) hS (hr78 ▸ (c_shardOf)) ?_)
 intro w77 hS
 refine WL_y (Y_move (.int .i64 x4) hT37_2) <|WL_y (Y_neq rfl rfl) ?_
 refine WL_nil (nm_then ?_)
 refine W_cond rfl (fun hc80 => ?_) (fun hc80 => ?_)
 replace hz := bif_ok_t hz hc80
 refine W_exit <|ex_then <|ex_hit ?_
 refine (nm_then ?_)
 exact ⟨M36, cs38, d39, cs40, d41, v42, v44, v46, hF68, (St.dropB hS hb73), hb38, hb40, hp43, hp45, hp47, hT37_0, hT37_1, hT37_2, hT37_6, hT37_20, hT37_21, hT37_22, hz⟩
 replace hz := bif_ok_f hz hc80
 refine W_skip (nm_then ?_)
 refine W_seq <|W_drawB (Rd M36 [.box b73 cs75 78, .box bx1 cs40 48]) (inL []) mixed hS fun w81 hS => ?_
 have hG82 := Mm.ext.refl w.heap.size (lentX [.box bx1 cx1 48, .row ux1_1 3 1]) M36
 have hR83 : Rd M36 [.box b73 cs75 78, .box bx1 cs40 48] w81 := Rd.of hS hG82 (by simp)
 refine WB_y (i := 0) rfl (by kernel_rfl) rfl (Y_move (.pointer (some ⟨bx1, 0, none⟩)) hT37_0) (fun _ => hR83) <|WB_y (i := 1) rfl (by kernel_rfl) rfl (Y_fa fa78_1 rfl) (fun _ => hR83) <|WB_ld (i := 2) rfl (by kernel_rfl) rfl (inL_lt rfl) (by kernel_rfl) (by kernel_rfl) (Y_ld1 (.int .i64 d76.key) ts3 rfl (bvR 0 rfl) (GOp.p1 (rep_root (k := 3) rfl hb75))) hR83 <|WB_y (i := 3) rfl (by kernel_rfl) rfl (Y_nil rfl) (fun _ => hR83) <|WB_y (i := 4) rfl (by kernel_rfl) rfl (Y_fa fa48_2 rfl) (fun _ => hR83) ?_
 obtain ⟨u84, hx85, hz⟩ := bind_ok hz
 obtain ⟨hx85a, hx85b⟩ := inR_some hx85
 refine WB_y (i := 5) rfl (by kernel_rfl) rfl (Y_ixA ia46 rfl rfl hx85a hx85b) (fun _ => hR83) ?_
 obtain ⟨x86, hx87, hz⟩ := bind_ok hz
 refine WB_ld (i := 6) rfl (by kernel_rfl) rfl (inL_lt rfl) (by kernel_rfl) (by kernel_rfl) (Y_ld1 (.int .i64 x86) ts3 rfl (bvR 1 rfl) (vp (k := 1) rfl rfl (GNode.p2 (rep_root (k := 201) rfl hb40)) hx87)) hR83 ?_
 have ha88 := (rep_root (k := 3) rfl hb75)
 refine WB_ld (i := 7) rfl (by kernel_rfl) rfl (inL_lt rfl) (by kernel_rfl) (by kernel_rfl) (Y_ldn ta78 rfl (bvR 0 rfl) (Rep.len ha88)) hR83 ?_
 obtain ⟨r91, hr90, hz⟩ := bind_ok hz
 replace hr90 := Option.some.inj hr90
 refine WB_one (i := 8) (by kernel_rfl) rfl (O_val (vs := [.int .i64 x86, .agg (sl cs75 (0) 3).toArray]) (v := .int .i64 r91) cb80 (args2 rfl rfl) hS (hr90 ▸ (c_doOp hS.agree ha88)) ?_)
 intro w89 hS
 have hR92 : Rd M36 [.box b73 cs75 78, .box bx1 cs40 48] w89 := Rd.of hS hG82 (by simp)
 refine ⟨fun _ => hR92, ?_⟩
 refine WB_y (i := 9) rfl (by kernel_rfl) rfl (Y_assign (.int .i64 r91) rfl) (fun _ => hR92) ?_
 refine WB_done (by kernel_rfl) (nm_then ?_)
 refine W_seq <|W_drawB (Rd M36 [.box b73 cs75 78]) (inL []) mixed hS fun w93 hS => ?_
 have hG94 := Mm.ext.refl w.heap.size (lentX [.box bx1 cx1 48, .row ux1_1 3 1]) M36
 have hR95 : Rd M36 [.box b73 cs75 78] w93 := Rd.of hS hG94 (by simp)
 refine WB_y (i := 0) rfl (by kernel_rfl) rfl (Y_move (.pointer (some ⟨bx1, 0, none⟩)) hT37_0) (fun _ => hR95) <|WB_y (i := 1) rfl (by kernel_rfl) rfl (Y_fa fa78_1 rfl) (fun _ => hR95) <|WB_ld (i := 2) rfl (by kernel_rfl) rfl (inL_lt rfl) (by kernel_rfl) (by kernel_rfl) (Y_ld1 (.int .i64 d76.key) ts3 rfl (bvR 0 rfl) (GOp.p1 (rep_root (k := 3) rfl hb75))) hR95 <|WB_y (i := 3) rfl (by kernel_rfl) rfl (Y_move (.int .i64 r91) rfl) (fun _ => hR95) <|WB_y (i := 4) rfl (by kernel_rfl) rfl (Y_nil rfl) (fun _ => hR95) <|WB_y (i := 5) rfl (by kernel_rfl) rfl (Y_fa fa48_2 rfl) (fun _ => hR95) ?_
 obtain ⟨u96, hx97, hz⟩ := bind_ok hz
 obtain ⟨hx97a, hx97b⟩ := inR_some hx97
 refine WB_y (i := 6) rfl (by kernel_rfl) rfl (Y_ixA ia46 rfl rfl hx97a hx97b) (fun _ => hR95) ?_
 obtain ⟨x100, hx101, hz⟩ := bind_ok hz
 have hw99 : ([.int .i64 r91] : List Value).length = 1 := Rep.len (show rep M36 [Value.int .i64 r91] (r91 : Int) from rfl)
 have hl99 : (cs40).length = 201 := Rep.len hb40
 have hq102 := (idxV_some hx101)
 obtain ⟨a103, hx104, hz⟩ := bind_ok hz
 obtain ⟨d105, hd99, hz⟩ := bind_ok hz
 have hb99 : rep M36 (pt cs40 (0 + 193 + Int.toNat d76.key * 1) [.int .i64 r91]) d105 := rep_eq (rep_whole (k := 201) (by rw [pt_length (by omega)]; exact hl99) (GNode.s2 (rep_root (k := 201) rfl hb40) (vs (k := 1) rfl rfl (GNode.p2 (rep_root (k := 201) rfl hb40)) (rep_leaf rfl (show rep M36 [Value.int .i64 r91] (r91 : Int) from rfl) (by omega)) hx104 (by omega) (by omega) (by omega)) (by omega) (by omega) (by omega))) hd99
 have hp106 : sl (pt cs40 (0 + 193 + Int.toNat d76.key * 1) [.int .i64 r91]) (0 + 192) 1 = [v42] := (sl_pt_apart (by omega) (by omega)).trans hp43
 generalize hg99 : (pt cs40 (0 + 193 + Int.toNat d76.key * 1) [.int .i64 r91]) = cs99 at hb99 hp106
 refine WB_one (i := 7) (by kernel_rfl) rfl (O_st (j := 6) (v := .int .i64 r91) (ws := [.int .i64 r91]) hS rfl (by kernel_rfl) rfl rfl rfl hw99 (Rep.one (show rep M36 [Value.int .i64 r91] (r91 : Int) from rfl)) (by omega) ?_)
 rw [hg99]
 clear hg99
 intro w98 hS
 replace hS : St w (lentX [.box bx1 cx1 48, .row ux1_1 3 1]) M36 [.box b73 cs75 78, .row v46 3 1, .row v44 3 1, .row (.slice none 0 0) 3 1, .row (.slice none 0 0) 3 1, .box b11 cs38 44, .box bx1 cs99 48, .row v42 3 1] w98 := hS
 have hR107 : Rd M36 [.box b73 cs75 78] w98 := Rd.of hS hG94 (by simp)
 refine ⟨fun _ => hR107, ?_⟩
 refine WB_done (by kernel_rfl) (nm_then ?_)
 refine W_J (fun T' w' => ∃ M109 cs111 d112 v113 v115, Mm.ext w.heap.size (lentX [.box bx1 cx1 48, .row ux1_1 3 1]) M36 M109 ∧ St w (lentX [.box bx1 cx1 48, .row ux1_1 3 1]) M109 [.box b73 cs75 78, .row v115 3 1, .row v113 3 1, .row (.slice none 0 0) 3 1, .row (.slice none 0 0) 3 1, .box b11 cs111 44, .box bx1 cs99 48, .row v42 3 1] w' ∧ rep M109 cs111 d112 ∧ sl cs111 (0 + 4) 1 = [v113] ∧ sl cs111 (0 + 5) 1 = [v115] ∧ T' 0 = .pointer (some ⟨bx1, 0, none⟩) ∧ T' 1 = .int .i64 x3 ∧ T' 2 = .int .i64 x4 ∧ T' 6 = .pointer (some ⟨b11, 0, none⟩) ∧ T' 20 = v33 ∧ T' 21 = .int .i64 (d30.ops.length : Int) ∧ T' 22 = .int .i64 y48 ∧ executeOne_j2 y48 rec49 d105 d112 = some r) ?_ ?_
 have hF118 := Mm.ext.refl w.heap.size (lentX [.box bx1 cx1 48, .row ux1_1 3 1]) M36
 refine W_drawB (Rd M36 [.box b11 cs38 44]) (inL [11, 13]) mixed hS fun w119 hS => ?_
 have hG120 := Mm.ext.refl w.heap.size (lentX [.box bx1 cx1 48, .row ux1_1 3 1]) M36
 have hR121 : Rd M36 [.box b11 cs38 44] w119 := Rd.of hS hG120 (by simp)
 refine WB_y (i := 0) rfl (by kernel_rfl) rfl (Y_fa fa44_4 hT37_6) (fun _ => hR121) ?_
 obtain ⟨v122, ev122, hv122⟩ := (GEntry.p4 (rep_root (k := 6) rfl hb38))
 rw [sl_one_eq ev122 hp45] at hv122
 refine WB_ld (i := 1) rfl (by kernel_rfl) rfl (inL_lt rfl) (by kernel_rfl) (by kernel_rfl) (Y_ld1 v44 ts27 rfl (bvR 0 rfl) hp45) hR121 <|WB_y (i := 2) rfl (by kernel_rfl) rfl (Y_move (.int .i64 y48) rfl) (fun _ => hR121) <|WB_y (i := 5) rfl (by kernel_rfl) rfl (Y_fa fa44_5 hT37_6) (fun _ => hR121) ?_
 obtain ⟨v123, ev123, hv123⟩ := (GEntry.p5 (rep_root (k := 6) rfl hb38))
 rw [sl_one_eq ev123 hp47] at hv123
 refine WB_ld (i := 6) rfl (by kernel_rfl) rfl (inL_lt rfl) (by kernel_rfl) (by kernel_rfl) (Y_ld1 v46 ts27 rfl (bvR 0 rfl) hp47) hR121 <|WB_y (i := 7) rfl (by kernel_rfl) rfl (Y_move (.int .i64 r91) rfl) (fun _ => hR121) ?_
 obtain ⟨l128, hr127, hz⟩ := bind_ok hz
 obtain ⟨l133, hr132, hz⟩ := bind_ok hz
 obtain ⟨d136, hd135, hz⟩ := bind_ok hz
 obtain ⟨d141, hd140, hz⟩ := bind_ok hz
 refine WB_two (i := 3) (j := 8) (by kernel_rfl) rfl rfl (O_bslice (α := Int) (l := ([y48] : List Int)) [.int .i64 y48] tl27 (bpc rfl bp0) rfl rfl (by decide) (by decide) (by decide) hS (brc (show rep M36 [Value.int .i64 y48] (y48 : Int) from rfl) br0) ?_) (O_bslice (α := Int) (l := ([r91] : List Int)) [.int .i64 r91] tl27 (bpc rfl bp0) rfl rfl (by decide) (by decide) (by decide) hS (brc (show rep M36 [Value.int .i64 r91] (r91 : Int) from rfl) br0) ?_)
 intro v125 M125 w124 hx125 hv125 hS
 replace hv33 := repL.mono hx125.1 hv33
 replace hb38 := Rep.mono hx125.1 hb38
 replace hb75 := Rep.mono hx125.1 hb75
 replace hb99 := Rep.mono hx125.1 hb99
 replace hv122 := repL.mono hx125.1 hv122
 replace hv123 := repL.mono hx125.1 hv123
 replace hE := Mm.ext.trans hE hx125
 replace hF51 := Mm.ext.trans hF51 hx125
 replace hF68 := Mm.ext.trans hF68 hx125
 replace hF118 := Mm.ext.trans hF118 hx125
 replace hG120 := Mm.ext.trans hG120 hx125
 have hR144 : Rd M36 [.box b11 cs38 44] w124 := Rd.of hS hG120 (by simp)
 refine ⟨fun _ => hR144, ?_⟩
 obtain ⟨hy127, hs127⟩ := app_some hr127
 refine WB_two (i := 4) (j := 8) (by kernel_rfl) rfl rfl (O_app (α := Int) (j := 2) tp27 hS rfl rfl rfl hv122 hv125 hy127 ?_) (O_bslice (α := Int) (l := ([r91] : List Int)) [.int .i64 r91] tl27 (bpc rfl bp0) rfl rfl (by decide) (by decide) (by decide) hS (brc (show rep M125 [Value.int .i64 r91] (r91 : Int) from rfl) br0) ?_)
 intro v127 M127 w126 hx127 hv127 hS
 rw [← hs127] at hv127
 clear hr127 hs127
 replace hv33 := repL.mono hx127.1 hv33
 replace hb38 := Rep.mono hx127.1 hb38
 replace hb75 := Rep.mono hx127.1 hb75
 replace hb99 := Rep.mono hx127.1 hb99
 replace hv122 := repL.mono hx127.1 hv122
 replace hv123 := repL.mono hx127.1 hv123
 replace hv125 := repL.mono hx127.1 hv125
 replace hE := Mm.ext.trans hE hx127
 replace hF51 := Mm.ext.trans hF51 hx127
 replace hF68 := Mm.ext.trans hF68 hx127
 replace hF118 := Mm.ext.trans hF118 hx127
 replace hG120 := Mm.ext.trans hG120 hx127
 replace hS : St w (lentX [.box bx1 cx1 48, .row ux1_1 3 1]) M127 [.box b73 cs75 78, .row v46 3 1, .row v127 3 1, .row (.slice none 0 0) 3 1, .row (.slice none 0 0) 3 1, .box b11 cs38 44, .box bx1 cs99 48, .row v42 3 1] w126 := hS
 have hR145 : Rd M36 [.box b11 cs38 44] w126 := Rd.of hS hG120 (by simp)
 refine ⟨fun _ => hR145, ?_⟩
 refine WB_y (i := 10) rfl (by kernel_rfl) rfl (Y_fa fa44_4 hT37_6) (fun _ => hR145) ?_
 refine WB_one (i := 8) (by kernel_rfl) rfl (O_bslice (α := Int) (l := ([r91] : List Int)) [.int .i64 r91] tl27 (bpc rfl bp0) rfl rfl (by decide) (by decide) (by decide) hS (brc (show rep M127 [Value.int .i64 r91] (r91 : Int) from rfl) br0) ?_)
 intro v130 M130 w129 hx130 hv130 hS
 replace hv33 := repL.mono hx130.1 hv33
 replace hb38 := Rep.mono hx130.1 hb38
 replace hb75 := Rep.mono hx130.1 hb75
 replace hb99 := Rep.mono hx130.1 hb99
 replace hv122 := repL.mono hx130.1 hv122
 replace hv123 := repL.mono hx130.1 hv123
 replace hv125 := repL.mono hx130.1 hv125
 replace hv127 := repL.mono hx130.1 hv127
 replace hE := Mm.ext.trans hE hx130
 replace hF51 := Mm.ext.trans hF51 hx130
 replace hF68 := Mm.ext.trans hF68 hx130
 replace hF118 := Mm.ext.trans hF118 hx130
 replace hG120 := Mm.ext.trans hG120 hx130
 have hR146 : Rd M36 [.box b11 cs38 44] w129 := Rd.of hS hG120 (by simp)
 refine ⟨fun _ => hR146, ?_⟩
 obtain ⟨hy132, hs132⟩ := app_some hr132
 refine WB_one (i := 9) (by kernel_rfl) rfl (O_app (α := Int) (j := 1) tp27 hS rfl rfl rfl hv123 hv130 hy132 ?_)
 intro v132 M132 w131 hx132 hv132 hS
 rw [← hs132] at hv132
 clear hr132 hs132
 replace hv33 := repL.mono hx132.1 hv33
 replace hb38 := Rep.mono hx132.1 hb38
 replace hb75 := Rep.mono hx132.1 hb75
 replace hb99 := Rep.mono hx132.1 hb99
 replace hv122 := repL.mono hx132.1 hv122
 replace hv123 := repL.mono hx132.1 hv123
 replace hv125 := repL.mono hx132.1 hv125
 replace hv127 := repL.mono hx132.1 hv127
 replace hv130 := repL.mono hx132.1 hv130
 replace hE := Mm.ext.trans hE hx132
 replace hF51 := Mm.ext.trans hF51 hx132
 replace hF68 := Mm.ext.trans hF68 hx132
 replace hF118 := Mm.ext.trans hF118 hx132
 replace hG120 := Mm.ext.trans hG120 hx132
 replace hS : St w (lentX [.box bx1 cx1 48, .row ux1_1 3 1]) M132 [.box b73 cs75 78, .row v132 3 1, .row v127 3 1, .row (.slice none 0 0) 3 1, .row (.slice none 0 0) 3 1, .box b11 cs38 44, .box bx1 cs99 48, .row v42 3 1] w131 := hS
 have hR147 : Rd M36 [.box b11 cs38 44] w131 := Rd.of hS hG120 (by simp)
 refine ⟨fun _ => hR147, ?_⟩
 have hw135 : ([v127] : List Value).length = 1 := Rep.len (repL_rep hv127)
 have hl135 : (cs38).length = 6 := Rep.len hb38
 have hb135 : rep M132 (pt cs38 (0 + 4) [v127]) d136 := rep_eq (rep_whole (k := 6) (by rw [pt_length (by omega)]; exact hl135) (GEntry.s4 (rep_root (k := 6) rfl hb38) (rep_leaf rfl (repL_rep hv127) (by omega)) (by omega) (by omega) (by omega))) hd135
 have hp137 : sl (pt cs38 (0 + 4) [v127]) (0 + 5) 1 = [v46] := (sl_pt_apart (by omega) (by omega)).trans hp47
 have hp138 : sl (pt cs38 (0 + 4) [v127]) (0 + 4) 1 = [v127] := sl_pt_same (by omega) rfl
 generalize hg135 : (pt cs38 (0 + 4) [v127]) = cs135 at hb135 hp137 hp138
 refine WB_one (i := 11) (by kernel_rfl) rfl (O_st (j := 5) (v := v127) (ws := [v127]) hS rfl (by kernel_rfl) rfl rfl (repL_cells hv127) hw135 (Rep.one (repL_rep hv127)) (by omega) ?_)
 rw [hg135]
 clear hg135
 intro w134 hS
 replace hS : St w (lentX [.box bx1 cx1 48, .row ux1_1 3 1]) M132 [.box b73 cs75 78, .row v132 3 1, .row v127 3 1, .row (.slice none 0 0) 3 1, .row (.slice none 0 0) 3 1, .box b11 cs135 44, .box bx1 cs99 48, .row v42 3 1] w134 := hS
 refine ⟨fun h => Bool.noConfusion (show false = true from h), ?_⟩
 refine WB_y (i := 12) rfl (by kernel_rfl) rfl (Y_fa fa44_5 hT37_6) (fun h => Bool.noConfusion (show false = true from h)) ?_
 have hw140 : ([v132] : List Value).length = 1 := Rep.len (repL_rep hv132)
 have hl140 : (cs135).length = 6 := Rep.len hb135
 have hb140 : rep M132 (pt cs135 (0 + 5) [v132]) d141 := rep_eq (rep_whole (k := 6) (by rw [pt_length (by omega)]; exact hl140) (GEntry.s5 (rep_root (k := 6) rfl hb135) (rep_leaf rfl (repL_rep hv132) (by omega)) (by omega) (by omega) (by omega))) hd140
 have hp142 : sl (pt cs135 (0 + 5) [v132]) (0 + 4) 1 = [v127] := (sl_pt_apart (by omega) (by omega)).trans hp138
 have hp143 : sl (pt cs135 (0 + 5) [v132]) (0 + 5) 1 = [v132] := sl_pt_same (by omega) rfl
 generalize hg140 : (pt cs135 (0 + 5) [v132]) = cs140 at hb140 hp142 hp143
 refine WB_one (i := 13) (by kernel_rfl) rfl (O_st (j := 5) (v := v132) (ws := [v132]) hS rfl (by kernel_rfl) rfl rfl (repL_cells hv132) hw140 (Rep.one (repL_rep hv132)) (by omega) ?_)
 rw [hg140]
 clear hg140
 intro w139 hS
 replace hS : St w (lentX [.box bx1 cx1 48, .row ux1_1 3 1]) M132 [.box b73 cs75 78, .row v132 3 1, .row v127 3 1, .row (.slice none 0 0) 3 1, .row (.slice none 0 0) 3 1, .box b11 cs140 44, .box bx1 cs99 48, .row v42 3 1] w139 := hS
 refine ⟨fun h => Bool.noConfusion (show false = true from h), ?_⟩
 refine WB_done (by kernel_rfl) (nm_then ?_)
 exact ⟨M132, cs140, d141, v127, v132, hF118, hS, hb140, hp142, hp143, hT37_0, hT37_1, hT37_2, hT37_6, hT37_20, hT37_21, hT37_22, hz⟩
 intro v130 M130 w129 hx130 hv130 hS
 replace hv33 := repL.mono hx130.1 hv33
 replace hb38 := Rep.mono hx130.1 hb38
 replace hb75 := Rep.mono hx130.1 hb75
 replace hb99 := Rep.mono hx130.1 hb99
 replace hv122 := repL.mono hx130.1 hv122
 replace hv123 := repL.mono hx130.1 hv123
 replace hv125 := repL.mono hx130.1 hv125
 replace hE := Mm.ext.trans hE hx130
 replace hF51 := Mm.ext.trans hF51 hx130
 replace hF68 := Mm.ext.trans hF68 hx130
 replace hF118 := Mm.ext.trans hF118 hx130
 replace hG120 := Mm.ext.trans hG120 hx130
 have hR148 : Rd M36 [.box b11 cs38 44] w129 := Rd.of hS hG120 (by simp)
 refine ⟨fun _ => hR148, ?_⟩
 obtain ⟨hy127, hs127⟩ := app_some hr127
 refine WB_one (i := 4) (by kernel_rfl) rfl (O_app (α := Int) (j := 2) tp27 hS rfl rfl rfl hv122 hv125 hy127 ?_)
 intro v127 M127 w126 hx127 hv127 hS
 rw [← hs127] at hv127
 clear hr127 hs127
 replace hv33 := repL.mono hx127.1 hv33
 replace hb38 := Rep.mono hx127.1 hb38
 replace hb75 := Rep.mono hx127.1 hb75
 replace hb99 := Rep.mono hx127.1 hb99
 replace hv122 := repL.mono hx127.1 hv122
 replace hv123 := repL.mono hx127.1 hv123
 replace hv125 := repL.mono hx127.1 hv125
 replace hv130 := repL.mono hx127.1 hv130
 replace hE := Mm.ext.trans hE hx127
 replace hF51 := Mm.ext.trans hF51 hx127
 replace hF68 := Mm.ext.trans hF68 hx127
 replace hF118 := Mm.ext.trans hF118 hx127
 replace hG120 := Mm.ext.trans hG120 hx127
 replace hS : St w (lentX [.box bx1 cx1 48, .row ux1_1 3 1]) M127 [.box b73 cs75 78, .row v46 3 1, .row v127 3 1, .row (.slice none 0 0) 3 1, .row (.slice none 0 0) 3 1, .box b11 cs38 44, .box bx1 cs99 48, .row v42 3 1] w126 := hS
 have hR149 : Rd M36 [.box b11 cs38 44] w126 := Rd.of hS hG120 (by simp)
 refine ⟨fun _ => hR149, ?_⟩
 refine WB_y (i := 10) rfl (by kernel_rfl) rfl (Y_fa fa44_4 hT37_6) (fun _ => hR149) ?_
 obtain ⟨hy132, hs132⟩ := app_some hr132
 refine WB_one (i := 9) (by kernel_rfl) rfl (O_app (α := Int) (j := 1) tp27 hS rfl rfl rfl hv123 hv130 hy132 ?_)
 intro v132 M132 w131 hx132 hv132 hS
 rw [← hs132] at hv132
 clear hr132 hs132
 replace hv33 := repL.mono hx132.1 hv33
 replace hb38 := Rep.mono hx132.1 hb38
 replace hb75 := Rep.mono hx132.1 hb75
 replace hb99 := Rep.mono hx132.1 hb99
 replace hv122 := repL.mono hx132.1 hv122
 replace hv123 := repL.mono hx132.1 hv123
 replace hv125 := repL.mono hx132.1 hv125
 replace hv130 := repL.mono hx132.1 hv130
 replace hv127 := repL.mono hx132.1 hv127
 replace hE := Mm.ext.trans hE hx132
 replace hF51 := Mm.ext.trans hF51 hx132
 replace hF68 := Mm.ext.trans hF68 hx132
 replace hF118 := Mm.ext.trans hF118 hx132
 replace hG120 := Mm.ext.trans hG120 hx132
 replace hS : St w (lentX [.box bx1 cx1 48, .row ux1_1 3 1]) M132 [.box b73 cs75 78, .row v132 3 1, .row v127 3 1, .row (.slice none 0 0) 3 1, .row (.slice none 0 0) 3 1, .box b11 cs38 44, .box bx1 cs99 48, .row v42 3 1] w131 := hS
 have hR150 : Rd M36 [.box b11 cs38 44] w131 := Rd.of hS hG120 (by simp)
 refine ⟨fun _ => hR150, ?_⟩
 have hw135 : ([v127] : List Value).length = 1 := Rep.len (repL_rep hv127)
 have hl135 : (cs38).length = 6 := Rep.len hb38
 have hb135 : rep M132 (pt cs38 (0 + 4) [v127]) d136 := rep_eq (rep_whole (k := 6) (by rw [pt_length (by omega)]; exact hl135) (GEntry.s4 (rep_root (k := 6) rfl hb38) (rep_leaf rfl (repL_rep hv127) (by omega)) (by omega) (by omega) (by omega))) hd135
 have hp137 : sl (pt cs38 (0 + 4) [v127]) (0 + 5) 1 = [v46] := (sl_pt_apart (by omega) (by omega)).trans hp47
 have hp138 : sl (pt cs38 (0 + 4) [v127]) (0 + 4) 1 = [v127] := sl_pt_same (by omega) rfl
 generalize hg135 : (pt cs38 (0 + 4) [v127]) = cs135 at hb135 hp137 hp138
 refine WB_one (i := 11) (by kernel_rfl) rfl (O_st (j := 5) (v := v127) (ws := [v127]) hS rfl (by kernel_rfl) rfl rfl (repL_cells hv127) hw135 (Rep.one (repL_rep hv127)) (by omega) ?_)
 rw [hg135]
 clear hg135
 intro w134 hS
 replace hS : St w (lentX [.box bx1 cx1 48, .row ux1_1 3 1]) M132 [.box b73 cs75 78, .row v132 3 1, .row v127 3 1, .row (.slice none 0 0) 3 1, .row (.slice none 0 0) 3 1, .box b11 cs135 44, .box bx1 cs99 48, .row v42 3 1] w134 := hS
 refine ⟨fun h => Bool.noConfusion (show false = true from h), ?_⟩
 refine WB_y (i := 12) rfl (by kernel_rfl) rfl (Y_fa fa44_5 hT37_6) (fun h => Bool.noConfusion (show false = true from h)) ?_
 have hw140 : ([v132] : List Value).length = 1 := Rep.len (repL_rep hv132)
 have hl140 : (cs135).length = 6 := Rep.len hb135
 have hb140 : rep M132 (pt cs135 (0 + 5) [v132]) d141 := rep_eq (rep_whole (k := 6) (by rw [pt_length (by omega)]; exact hl140) (GEntry.s5 (rep_root (k := 6) rfl hb135) (rep_leaf rfl (repL_rep hv132) (by omega)) (by omega) (by omega) (by omega))) hd140
 have hp142 : sl (pt cs135 (0 + 5) [v132]) (0 + 4) 1 = [v127] := (sl_pt_apart (by omega) (by omega)).trans hp138
 have hp143 : sl (pt cs135 (0 + 5) [v132]) (0 + 5) 1 = [v132] := sl_pt_same (by omega) rfl
 generalize hg140 : (pt cs135 (0 + 5) [v132]) = cs140 at hb140 hp142 hp143
 refine WB_one (i := 13) (by kernel_rfl) rfl (O_st (j := 5) (v := v132) (ws := [v132]) hS rfl (by kernel_rfl) rfl rfl (repL_cells hv132) hw140 (Rep.one (repL_rep hv132)) (by omega) ?_)
 rw [hg140]
 clear hg140
 intro w139 hS
 replace hS : St w (lentX [.box bx1 cx1 48, .row ux1_1 3 1]) M132 [.box b73 cs75 78, .row v132 3 1, .row v127 3 1, .row (.slice none 0 0) 3 1, .row (.slice none 0 0) 3 1, .box b11 cs140 44, .box bx1 cs99 48, .row v42 3 1] w139 := hS
 refine ⟨fun h => Bool.noConfusion (show false = true from h), ?_⟩
 refine WB_done (by kernel_rfl) (nm_then ?_)
 exact ⟨M132, cs140, d141, v127, v132, hF118, hS, hb140, hp142, hp143, hT37_0, hT37_1, hT37_2, hT37_6, hT37_20, hT37_21, hT37_22, hz⟩
 intro v130 M130 w129 hx130 hv130 hS
 replace hv33 := repL.mono hx130.1 hv33
 replace hb38 := Rep.mono hx130.1 hb38
 replace hb75 := Rep.mono hx130.1 hb75
 replace hb99 := Rep.mono hx130.1 hb99
 replace hv122 := repL.mono hx130.1 hv122
 replace hv123 := repL.mono hx130.1 hv123
 replace hE := Mm.ext.trans hE hx130
 replace hF51 := Mm.ext.trans hF51 hx130
 replace hF68 := Mm.ext.trans hF68 hx130
 replace hF118 := Mm.ext.trans hF118 hx130
 replace hG120 := Mm.ext.trans hG120 hx130
 have hR151 : Rd M36 [.box b11 cs38 44] w129 := Rd.of hS hG120 (by simp)
 refine ⟨fun _ => hR151, ?_⟩
 refine WB_one (i := 3) (by kernel_rfl) rfl (O_bslice (α := Int) (l := ([y48] : List Int)) [.int .i64 y48] tl27 (bpc rfl bp0) rfl rfl (by decide) (by decide) (by decide) hS (brc (show rep M130 [Value.int .i64 y48] (y48 : Int) from rfl) br0) ?_)
 intro v125 M125 w124 hx125 hv125 hS
 replace hv33 := repL.mono hx125.1 hv33
 replace hb38 := Rep.mono hx125.1 hb38
 replace hb75 := Rep.mono hx125.1 hb75
 replace hb99 := Rep.mono hx125.1 hb99
 replace hv122 := repL.mono hx125.1 hv122
 replace hv123 := repL.mono hx125.1 hv123
 replace hv130 := repL.mono hx125.1 hv130
 replace hE := Mm.ext.trans hE hx125
 replace hF51 := Mm.ext.trans hF51 hx125
 replace hF68 := Mm.ext.trans hF68 hx125
 replace hF118 := Mm.ext.trans hF118 hx125
 replace hG120 := Mm.ext.trans hG120 hx125
 have hR152 : Rd M36 [.box b11 cs38 44] w124 := Rd.of hS hG120 (by simp)
 refine ⟨fun _ => hR152, ?_⟩
 obtain ⟨hy127, hs127⟩ := app_some hr127
 refine WB_one (i := 4) (by kernel_rfl) rfl (O_app (α := Int) (j := 2) tp27 hS rfl rfl rfl hv122 hv125 hy127 ?_)
 intro v127 M127 w126 hx127 hv127 hS
 rw [← hs127] at hv127
 clear hr127 hs127
 replace hv33 := repL.mono hx127.1 hv33
 replace hb38 := Rep.mono hx127.1 hb38
 replace hb75 := Rep.mono hx127.1 hb75
 replace hb99 := Rep.mono hx127.1 hb99
 replace hv122 := repL.mono hx127.1 hv122
 replace hv123 := repL.mono hx127.1 hv123
 replace hv130 := repL.mono hx127.1 hv130
 replace hv125 := repL.mono hx127.1 hv125
 replace hE := Mm.ext.trans hE hx127
 replace hF51 := Mm.ext.trans hF51 hx127
 replace hF68 := Mm.ext.trans hF68 hx127
 replace hF118 := Mm.ext.trans hF118 hx127
 replace hG120 := Mm.ext.trans hG120 hx127
 replace hS : St w (lentX [.box bx1 cx1 48, .row ux1_1 3 1]) M127 [.box b73 cs75 78, .row v46 3 1, .row v127 3 1, .row (.slice none 0 0) 3 1, .row (.slice none 0 0) 3 1, .box b11 cs38 44, .box bx1 cs99 48, .row v42 3 1] w126 := hS
 have hR153 : Rd M36 [.box b11 cs38 44] w126 := Rd.of hS hG120 (by simp)
 refine ⟨fun _ => hR153, ?_⟩
 refine WB_y (i := 10) rfl (by kernel_rfl) rfl (Y_fa fa44_4 hT37_6) (fun _ => hR153) ?_
 obtain ⟨hy132, hs132⟩ := app_some hr132
 refine WB_one (i := 9) (by kernel_rfl) rfl (O_app (α := Int) (j := 1) tp27 hS rfl rfl rfl hv123 hv130 hy132 ?_)
 intro v132 M132 w131 hx132 hv132 hS
 rw [← hs132] at hv132
 clear hr132 hs132
 replace hv33 := repL.mono hx132.1 hv33
 replace hb38 := Rep.mono hx132.1 hb38
 replace hb75 := Rep.mono hx132.1 hb75
 replace hb99 := Rep.mono hx132.1 hb99
 replace hv122 := repL.mono hx132.1 hv122
 replace hv123 := repL.mono hx132.1 hv123
 replace hv130 := repL.mono hx132.1 hv130
 replace hv125 := repL.mono hx132.1 hv125
 replace hv127 := repL.mono hx132.1 hv127
 replace hE := Mm.ext.trans hE hx132
 replace hF51 := Mm.ext.trans hF51 hx132
 replace hF68 := Mm.ext.trans hF68 hx132
 replace hF118 := Mm.ext.trans hF118 hx132
 replace hG120 := Mm.ext.trans hG120 hx132
 replace hS : St w (lentX [.box bx1 cx1 48, .row ux1_1 3 1]) M132 [.box b73 cs75 78, .row v132 3 1, .row v127 3 1, .row (.slice none 0 0) 3 1, .row (.slice none 0 0) 3 1, .box b11 cs38 44, .box bx1 cs99 48, .row v42 3 1] w131 := hS
 have hR154 : Rd M36 [.box b11 cs38 44] w131 := Rd.of hS hG120 (by simp)
 refine ⟨fun _ => hR154, ?_⟩
 have hw135 : ([v127] : List Value).length = 1 := Rep.len (repL_rep hv127)
 have hl135 : (cs38).length = 6 := Rep.len hb38
 have hb135 : rep M132 (pt cs38 (0 + 4) [v127]) d136 := rep_eq (rep_whole (k := 6) (by rw [pt_length (by omega)]; exact hl135) (GEntry.s4 (rep_root (k := 6) rfl hb38) (rep_leaf rfl (repL_rep hv127) (by omega)) (by omega) (by omega) (by omega))) hd135
 have hp137 : sl (pt cs38 (0 + 4) [v127]) (0 + 5) 1 = [v46] := (sl_pt_apart (by omega) (by omega)).trans hp47
 have hp138 : sl (pt cs38 (0 + 4) [v127]) (0 + 4) 1 = [v127] := sl_pt_same (by omega) rfl
 generalize hg135 : (pt cs38 (0 + 4) [v127]) = cs135 at hb135 hp137 hp138
 refine WB_one (i := 11) (by kernel_rfl) rfl (O_st (j := 5) (v := v127) (ws := [v127]) hS rfl (by kernel_rfl) rfl rfl (repL_cells hv127) hw135 (Rep.one (repL_rep hv127)) (by omega) ?_)
 rw [hg135]
 clear hg135
 intro w134 hS
 replace hS : St w (lentX [.box bx1 cx1 48, .row ux1_1 3 1]) M132 [.box b73 cs75 78, .row v132 3 1, .row v127 3 1, .row (.slice none 0 0) 3 1, .row (.slice none 0 0) 3 1, .box b11 cs135 44, .box bx1 cs99 48, .row v42 3 1] w134 := hS
 refine ⟨fun h => Bool.noConfusion (show false = true from h), ?_⟩
 refine WB_y (i := 12) rfl (by kernel_rfl) rfl (Y_fa fa44_5 hT37_6) (fun h => Bool.noConfusion (show false = true from h)) ?_
 have hw140 : ([v132] : List Value).length = 1 := Rep.len (repL_rep hv132)
 have hl140 : (cs135).length = 6 := Rep.len hb135
 have hb140 : rep M132 (pt cs135 (0 + 5) [v132]) d141 := rep_eq (rep_whole (k := 6) (by rw [pt_length (by omega)]; exact hl140) (GEntry.s5 (rep_root (k := 6) rfl hb135) (rep_leaf rfl (repL_rep hv132) (by omega)) (by omega) (by omega) (by omega))) hd140
 have hp142 : sl (pt cs135 (0 + 5) [v132]) (0 + 4) 1 = [v127] := (sl_pt_apart (by omega) (by omega)).trans hp138
 have hp143 : sl (pt cs135 (0 + 5) [v132]) (0 + 5) 1 = [v132] := sl_pt_same (by omega) rfl
 generalize hg140 : (pt cs135 (0 + 5) [v132]) = cs140 at hb140 hp142 hp143
 refine WB_one (i := 13) (by kernel_rfl) rfl (O_st (j := 5) (v := v132) (ws := [v132]) hS rfl (by kernel_rfl) rfl rfl (repL_cells hv132) hw140 (Rep.one (repL_rep hv132)) (by omega) ?_)
 rw [hg140]
 clear hg140
 intro w139 hS
 replace hS : St w (lentX [.box bx1 cx1 48, .row ux1_1 3 1]) M132 [.box b73 cs75 78, .row v132 3 1, .row v127 3 1, .row (.slice none 0 0) 3 1, .row (.slice none 0 0) 3 1, .box b11 cs140 44, .box bx1 cs99 48, .row v42 3 1] w139 := hS
 refine ⟨fun h => Bool.noConfusion (show false = true from h), ?_⟩
 refine WB_done (by kernel_rfl) (nm_then ?_)
 exact ⟨M132, cs140, d141, v127, v132, hF118, hS, hb140, hp142, hp143, hT37_0, hT37_1, hT37_2, hT37_6, hT37_20, hT37_21, hT37_22, hz⟩
 rintro T110 w108 ⟨M109, cs111, d112, v113, v115, hx117, hS, hb111, hp114, hp116, hT110_0, hT110_1, hT110_2, hT110_6, hT110_20, hT110_21, hT110_22, hz⟩
 replace hv33 := repL.mono hx117.1 hv33
 replace hb75 := Rep.mono hx117.1 hb75
 replace hb99 := Rep.mono hx117.1 hb99
 replace hE := Mm.ext.trans hE hx117
 replace hF51 := Mm.ext.trans hF51 hx117
 replace hF68 := Mm.ext.trans hF68 hx117
 rw [executeOne_j2] at hz
 refine (nm_blk ?_)
 refine (nm_then ?_)
 exact ⟨M109, cs111, d112, cs99, d105, v42, v113, v115, hF68, (St.dropB hS hb73), hb111, hb99, hp106, hp114, hp116, hT110_0, hT110_1, hT110_2, hT110_6, hT110_20, hT110_21, hT110_22, hz⟩
 rintro T56 w54 ⟨M55, cs57, d58, cs59, d60, v61, v63, v65, hx67, hS, hb57, hb59, hp62, hp64, hp66, hT56_0, hT56_1, hT56_2, hT56_6, hT56_20, hT56_21, hT56_22, hz⟩
 replace hv33 := repL.mono hx67.1 hv33
 replace hE := Mm.ext.trans hE hx67
 replace hF51 := Mm.ext.trans hF51 hx67
 rw [executeOne_j1] at hz
 refine W_reg <|WL_y (Y_add hT56_22 rfl) <|WL_y (Y_move (.int .i64 (IntKind.wrap .i64 (y48 + 1))) rfl) ?_
 refine WL_nil (nm_then ?_)
 exact ⟨M55, cs57, d58, cs59, d60, v61, v63, v65, (IntKind.wrap .i64 (y48 + 1)), hF51, hS, hb57, hb59, hp62, hp64, hp66, hT56_0, hT56_1, hT56_2, hT56_6, hT56_20, hT56_21, rfl, (by rw [← hrec49]; exact hz)⟩
 replace hz := bif_ok_f hz hc53
 refine W_exit <|ex_then <|ex_then <|ex_hit ?_
 refine (nm_then ?_)
 refine W_seq <|W_drawB (Rd M36 [.box b11 cs38 44]) (inL []) mixed hS fun w155 hS => ?_
 have hG156 := Mm.ext.refl w.heap.size (lentX [.box bx1 cx1 48, .row ux1_1 3 1]) M36
 have hR157 : Rd M36 [.box b11 cs38 44] w155 := Rd.of hS hG156 (by simp)
 refine WB_y (i := 0) rfl (by kernel_rfl) rfl (Y_move (.pointer (some ⟨bx1, 0, none⟩)) hT37_0) (fun _ => hR157) <|WB_y (i := 1) rfl (by kernel_rfl) rfl (Y_move (.int .i64 x3) hT37_1) (fun _ => hR157) ?_
 have ha158 := (rep_root (k := 6) rfl hb38)
 have hp159 : sl (sl cs38 (0) 6) 4 1 = [v44] := (sl_sub (by decide)).trans hp45
 have hp160 : sl (sl cs38 (0) 6) 5 1 = [v46] := (sl_sub (by decide)).trans hp47
 refine WB_ld (i := 2) rfl (by kernel_rfl) rfl (inL_lt rfl) (by kernel_rfl) (by kernel_rfl) (Y_ldn ta44 hT37_6 (bvR 0 rfl) (Rep.len ha158)) hR157 <|WB_y (i := 3) rfl (by kernel_rfl) rfl (Y_nil rfl) (fun _ => hR157) <|WB_y (i := 4) rfl (by kernel_rfl) rfl (Y_fa fa48_0 rfl) (fun _ => hR157) ?_
 obtain ⟨u161, hx162, hz⟩ := bind_ok hz
 obtain ⟨hx162a, hx162b⟩ := inR_some hx162
 refine WB_y (i := 5) rfl (by kernel_rfl) rfl (Y_ixA ia45 rfl rfl hx162a hx162b) (fun _ => hR157) ?_
 obtain ⟨x165, hx166, hz⟩ := bind_ok hz
 have hw164 : ((sl cs38 (0) 6) : List Value).length = 6 := Rep.len ha158
 have hl164 : (cs40).length = 201 := Rep.len hb40
 have hq167 := (idxV_some hx166)
 obtain ⟨a168, hx169, hz⟩ := bind_ok hz
 obtain ⟨d170, hd164, hz⟩ := bind_ok hz
 have hb164 : rep M36 (pt cs40 (0 + 0 + Int.toNat x3 * 6) (sl cs38 (0) 6)) d170 := rep_eq (rep_whole (k := 201) (by rw [pt_length (by omega)]; exact hl164) (GNode.s0 (rep_root (k := 201) rfl hb40) (vs (k := 6) rfl rfl (GNode.p0 (rep_root (k := 201) rfl hb40)) (rep_leaf rfl ha158 (by omega)) hx169 (by omega) (by omega) (by omega)) (by omega) (by omega) (by omega))) hd164
 have hp171 : sl (pt cs40 (0 + 0 + Int.toNat x3 * 6) (sl cs38 (0) 6)) (0 + 192) 1 = [v42] := (sl_pt_apart (by omega) (by omega)).trans hp43
 have hp172 : sl (pt cs40 (0 + 0 + Int.toNat x3 * 6) (sl cs38 (0) 6)) (0 + 0 + Int.toNat x3 * 6 + 4) 1 = [v44] := (sl_pt_sub (by omega) (by omega)).trans hp159
 have hp173 : sl (pt cs40 (0 + 0 + Int.toNat x3 * 6) (sl cs38 (0) 6)) (0 + 0 + Int.toNat x3 * 6 + 5) 1 = [v46] := (sl_pt_sub (by omega) (by omega)).trans hp160
 generalize hg164 : (pt cs40 (0 + 0 + Int.toNat x3 * 6) (sl cs38 (0) 6)) = cs164 at hb164 hp171 hp172 hp173
 refine WB_one (i := 6) (by kernel_rfl) rfl (O_st (j := 5) (v := .agg (sl cs38 (0) 6).toArray) (ws := (sl cs38 (0) 6)) hS rfl (by kernel_rfl) rfl rfl rfl hw164 (Rep.one ha158) (by omega) ?_)
 rw [hg164]
 clear hg164
 intro w163 hS
 replace hS : St w (lentX [.box bx1 cx1 48, .row ux1_1 3 1]) M36 [.row v46 3 1, .row v44 3 1, .row (.slice none 0 0) 3 1, .row (.slice none 0 0) 3 1, .box b11 cs38 44, .box bx1 cs164 48, .row v42 3 1] w163 := hS
 have hR174 : Rd M36 [.box b11 cs38 44] w163 := Rd.of hS hG156 (by simp)
 refine ⟨fun _ => hR174, ?_⟩
 refine WB_done (by kernel_rfl) (nm_then ?_)
 refine W_reg <|WL_y (Y_move (.pointer (some ⟨bx1, 0, none⟩)) hT37_0) <|WL_y (Y_move (.pointer (some ⟨bx1, 0, none⟩)) hT37_0) <|WL_y (Y_nil rfl) <|WL_y (Y_fa fa48_1 rfl) ?_
 obtain ⟨v175, ev175, hv175⟩ := (GNode.p1 (rep_root (k := 201) rfl hb164))
 rw [sl_one_eq ev175 hp171] at hv175
 refine WL_y (Y_ld1 v42 ts27 rfl (hS.bvB 5 rfl) hp171) <|WL_y (Y_move (.int .i64 x3) hT37_1) ?_
 refine WL_c (O_bslice (α := Int) (l := ([x3] : List Int)) [.int .i64 x3] tl27 (bpc rfl bp0) rfl rfl (by decide) (by decide) (by decide) hS (brc (show rep M36 [Value.int .i64 x3] (x3 : Int) from rfl) br0) ?_)
 intro v177 M177 w176 hx177 hv177 hS
 replace hb38 := Rep.mono hx177.1 hb38
 replace hb164 := Rep.mono hx177.1 hb164
 replace hv175 := repL.mono hx177.1 hv175
 replace hE := Mm.ext.trans hE hx177
 replace hF51 := Mm.ext.trans hF51 hx177
 obtain ⟨l180, hr179, hz⟩ := bind_ok hz
 obtain ⟨hy179, hs179⟩ := app_some hr179
 refine WL_c (O_app (α := Int) (j := 6) tp27 hS rfl rfl rfl hv175 hv177 hy179 ?_)
 intro v179 M179 w178 hx179 hv179 hS
 rw [← hs179] at hv179
 clear hr179 hs179
 replace hb38 := Rep.mono hx179.1 hb38
 replace hb164 := Rep.mono hx179.1 hb164
 replace hv175 := repL.mono hx179.1 hv175
 replace hv177 := repL.mono hx179.1 hv177
 replace hE := Mm.ext.trans hE hx179
 replace hF51 := Mm.ext.trans hF51 hx179
 replace hS : St w (lentX [.box bx1 cx1 48, .row ux1_1 3 1]) M179 [.row v46 3 1, .row v44 3 1, .row (.slice none 0 0) 3 1, .row (.slice none 0 0) 3 1, .box b11 cs38 44, .box bx1 cs164 48, .row v179 3 1] w178 := hS
 refine WL_y (Y_nil rfl) <|WL_y (Y_fa fa48_1 rfl) ?_
 have hw182 : ([v179] : List Value).length = 1 := Rep.len (repL_rep hv179)
 have hl182 : (cs164).length = 201 := Rep.len hb164
 obtain ⟨d183, hd182, hz⟩ := bind_ok hz
 have hb182 : rep M179 (pt cs164 (0 + 192) [v179]) d183 := rep_eq (rep_whole (k := 201) (by rw [pt_length (by omega)]; exact hl182) (GNode.s1 (rep_root (k := 201) rfl hb164) (rep_leaf rfl (repL_rep hv179) (by omega)) (by omega) (by omega) (by omega))) hd182
 have hp184 : sl (pt cs164 (0 + 192) [v179]) (0 + 0 + Int.toNat x3 * 6 + 4) 1 = [v44] := (sl_pt_apart (by omega) (by omega)).trans hp172
 have hp185 : sl (pt cs164 (0 + 192) [v179]) (0 + 0 + Int.toNat x3 * 6 + 5) 1 = [v46] := (sl_pt_apart (by omega) (by omega)).trans hp173
 have hp186 : sl (pt cs164 (0 + 192) [v179]) (0 + 192) 1 = [v179] := sl_pt_same (by omega) rfl
 generalize hg182 : (pt cs164 (0 + 192) [v179]) = cs182 at hb182 hp184 hp185 hp186
 refine WL_c (O_st (j := 5) (v := v179) (ws := [v179]) hS rfl (by kernel_rfl) rfl rfl (repL_cells hv179) hw182 (Rep.one (repL_rep hv179)) (by omega) ?_)
 rw [hg182]
 clear hg182
 intro w181 hS
 replace hS : St w (lentX [.box bx1 cx1 48, .row ux1_1 3 1]) M179 [.row v46 3 1, .row v44 3 1, .row (.slice none 0 0) 3 1, .row (.slice none 0 0) 3 1, .box b11 cs38 44, .box bx1 cs182 48, .row v179 3 1] w181 := hS
 cases hz
 exact WL_nil (RetQ_ret (R_t0 rfl  ⟨_, M179, _, rfl, hE, (hS.sel (H' := [.box bx1 cs182 48, .row v179 3 1]) [5, 6] (by decide) rfl), cs182, v179, rfl, rfl, hb182, hp186⟩))
end Go.Proofs.Ytopgdemmdcipcaa
