/- What the proof of NodeTakes rests on, part 6: rules of walks, what functions compute, and plain laws of it. -/
import Derived.Test.YtopgdemmdcipcaaNodeTakesB5
namespace Go.Proofs.Ytopgdemmdcipcaa
open Go.RowKit
open Rep (rep)
set_option linter.unusedVariables false
def takeFrame_j4 (d83 : GNode) (l84 : List GFrame) (y86 : Int) : Option (GNode × (List GFrame) × Int) :=
 some (d83, l84, y86)
def takeFrame_j3 (x2 : Int) (x3 : GFrame) (d73 : GEntry) (d75 : GNode) : Option (GNode × (List GFrame) × Int) :=
 (some ({ kind := 2, node := x2, id := x3.id, ops := Zr.zd, deps := d73.first, at_ := Zr.zd, vals := Zr.zd } : GFrame)).bind fun d96 =>
 (some d75).bind fun d101 =>
 takeFrame_j4 d101 ([d96] : List GFrame) 0
def takeFrame_j6 (d144 : GNode) (l156 : List GFrame) : Option (GNode × (List GFrame) × Int) :=
 (some d144).bind fun d163 =>
 some (d163, l156, 0)
def takeFrame_j7 (x2 : Int) (x3 : GFrame) (d144 : GNode) (d149 : GFrame) (d175 : GEntry) (c179 : Bool) : Option (GNode × (List GFrame) × Int) :=
 (bif c179 then
 (some ({ kind := 5, node := x2, id := x3.id, ops := Zr.zd, deps := Zr.zd, at_ := d175.at_, vals := d175.values } : GFrame)).bind fun d185 =>
 (app ([d149] : List GFrame) ([d185] : List GFrame)).bind fun l190 =>
 takeFrame_j6 d144 l190
 else
 takeFrame_j6 d144 ([d149] : List GFrame))
def takeFrame_j5 (x2 : Int) (x3 : GFrame) (r33 : Int) (d142 : GEntry) (d144 : GNode) : Option (GNode × (List GFrame) × Int) :=
 (some ({ kind := 4, node := x2, id := x3.id, ops := Zr.zd, deps := Zr.zd, at_ := Zr.zd, vals := Zr.zd } : GFrame)).bind fun d149 =>
 (inR x3.id 32).bind fun _ =>
 (idxV d144.entries x3.id).bind fun x168 =>
 (some x168).bind fun d175 =>
 (bif d175.state == 3 then
 (some (touchesZ d175.ops r33)).bind fun r196 =>
 takeFrame_j7 x2 x3 d144 d149 d175 r196
 else
 takeFrame_j7 x2 x3 d144 d149 d175 false)
def takeFrame_j9 (y251 : Int) (rec252 : GNode → Int → Option (GNode × (List GFrame) × Int)) (d261 : GNode) : Option (GNode × (List GFrame) × Int) :=
 rec252 d261 (IntKind.wrap .i64 (y251 + 1))
def takeFrame_j10 (y283 : Int) (rec284 : GNode → Int → Option (GNode × (List GFrame) × Int)) (d293 : GNode) : Option (GNode × (List GFrame) × Int) :=
 rec284 d293 (IntKind.wrap .i64 (y283 + 1))
def takeFrame_l2 (fu : Nat) (r33 : Int) (y251 : Int) (rec252 : GNode → Int → Option (GNode × (List GFrame) × Int)) (r274 : (List Int)) : Nat → GNode → Int → Option (GNode × (List GFrame) × Int)
 | 0, _, _ => none
 | n + 1, d280, y283 =>
 (bif decide (y283 < (r274.length : Int)) then
 (idx r274 y283).bind fun x299 =>
 (inR x299 32).bind fun _ =>
 (idxV d280.entries x299).bind fun x302 =>
 (bif x302.state == 2 then
 (executeOneD fu d280 x299 r33).bind fun r307 =>
 takeFrame_j10 y283 (takeFrame_l2 fu r33 y251 rec252 r274 n) r307
 else
 takeFrame_j10 y283 (takeFrame_l2 fu r33 y251 rec252 r274 n) d280)
 else
 takeFrame_j9 y251 rec252 d280)
def takeFrame_l1 (fu : Nat) (x2 : Int) (x3 : GFrame) (r33 : Int) (d220 : GEntry) (d243 : GGraph) : Nat → GNode → Int → Option (GNode × (List GFrame) × Int)
 | 0, _, _ => none
 | n + 1, d248, y251 =>
 (bif decide (y251 < 32) then
 (inR y251 32).bind fun _ =>
 (idxV d248.entries y251).bind fun x268 =>
 (bif x268.state != 2 then
 takeFrame_j9 y251 (takeFrame_l1 fu x2 x3 r33 d220 d243 n) d248
 else
 (orderOfD fu d243 y251).bind fun r274 =>
 takeFrame_l2 fu r33 y251 (takeFrame_l1 fu x2 x3 r33 d220 d243 n) r274 fu d248 0)
 else
 takeFrame_j5 x2 x3 r33 d220 d248)
def takeFrame_j8 (fu : Nat) (x2 : Int) (x3 : GFrame) (r33 : Int) (d47 : GNode) (d203 : GEntry) : Option (GNode × (List GFrame) × Int) :=
 (some ({ d203 with state := 2 } : GEntry)).bind fun d212 =>
 (some ({ d212 with ops := x3.ops } : GEntry)).bind fun d216 =>
 (some ({ d216 with deps := x3.deps } : GEntry)).bind fun d220 =>
 (inR x3.id 32).bind fun _ =>
 (idxV d47.entries x3.id).bind fun x227 =>
 (setV d47.entries x3.id d220).bind fun a230 =>
 (some ({ d47 with entries := a230 } : GNode)).bind fun d232 =>
 (graphOfD fu d232).bind fun r238 =>
 (some r238).bind fun d243 =>
 takeFrame_l1 fu x2 x3 r33 d220 d243 fu d232 0
def takeFrame_j2 (fu : Nat) (x1 : GNode) (x2 : Int) (x3 : GFrame) (d29 : GNode) : Option (GNode × (List GFrame) × Int) :=
 (some (ofZ x2)).bind fun r33 =>
 (some x1).bind fun d39 =>
 (copyNodeD fu x1).bind fun r43 =>
 (some r43).bind fun d47 =>
 (inR x3.id 32).bind fun _ =>
 (idxV d47.entries x3.id).bind fun x51 =>
 (some x51).bind fun d58 =>
 (bif x3.kind == 1 then
 (some (touchesZ x3.ops r33)).bind fun r63 =>
 (bif !r63 then
 (some d39).bind fun d68 =>
 some (d68, [], 4)
 else
 (bif d58.state == 0 then
 (beforeD fu d47 x3.id x3.ops r33).bind fun r118 =>
 (some ({ state := 1, ops := x3.ops, first := r118, deps := Zr.zd, at_ := Zr.zd, values := Zr.zd } : GEntry)).bind fun d121 =>
 (some d121).bind fun d124 =>
 (inR x3.id 32).bind fun _ =>
 (idxV d47.entries x3.id).bind fun x131 =>
 (setV d47.entries x3.id d124).bind fun a134 =>
 (some ({ d47 with entries := a134 } : GNode)).bind fun d136 =>
 takeFrame_j3 x2 x3 d124 d136
 else
 takeFrame_j3 x2 x3 d58 d47))
 else
 (bif decide (d58.state < 2) then
 (bif d58.state == 0 then
 (beforeD fu d47 x3.id x3.ops r33).bind fun r315 =>
 (some ({ d58 with first := r315 } : GEntry)).bind fun d318 =>
 takeFrame_j8 fu x2 x3 r33 d47 d318
 else
 takeFrame_j8 fu x2 x3 r33 d47 d58)
 else
 takeFrame_j5 x2 x3 r33 d58 d47))
def takeFrame_j11 (fu : Nat) (x1 : GNode) (x2 : Int) (x3 : GFrame) (d14 : GNode) (c323 : Bool) : Option (GNode × (List GFrame) × Int) :=
 (bif c323 then
 (some x1).bind fun d329 =>
 some (d329, [], 3)
 else
 takeFrame_j2 fu x1 x2 x3 d14)
def takeFrame_j1 (fu : Nat) (x1 : GNode) (x2 : Int) (x3 : GFrame) (d14 : GNode) : Option (GNode × (List GFrame) × Int) :=
 (some (frameZ x3)).bind fun r19 =>
 (bif r19 != 0 then
 (some x1).bind fun d24 =>
 some (d24, [], r19)
 else
 (bif x3.kind != 1 then
 takeFrame_j11 fu x1 x2 x3 d14 (x3.kind != 3)
 else
 takeFrame_j11 fu x1 x2 x3 d14 false))
def takeFrame_j12 (fu : Nat) (x1 : GNode) (x2 : Int) (x3 : GFrame) (c336 : Bool) : Option (GNode × (List GFrame) × Int) :=
 (bif c336 then
 (some x1).bind fun d342 =>
 some (d342, [], 2)
 else
 takeFrame_j1 fu x1 x2 x3 (Zr.zd : GNode))
def takeFrameD (fu : Nat) (x1 : GNode) (x2 : Int) (x3 : GFrame) : Option (GNode × (List GFrame) × Int) :=
 (isNodeD fu x1).bind fun r347 =>
 (bif !r347 then
 takeFrame_j12 fu x1 x2 x3 true
 else
 (bif decide (x2 < 0) then
 takeFrame_j12 fu x1 x2 x3 true
 else
 (bif decide (x2 > 5) then
 takeFrame_j12 fu x1 x2 x3 true
 else
 takeFrame_j12 fu x1 x2 x3 (x3.node != x2))))
set_option maxRecDepth 100000 in
set_option maxHeartbeats 4000000 in
theorem takeFrame_ok {M : Mm} {w : World} {cx1 : List Value} {cx3 : List Value} {x1 : GNode} {x2 : Int} {x3 : GFrame} {fu : Nat} {r : GNode × (List GFrame) × Int} (hA : Agree M w) (hcx1 : rep M cx1 x1) (hcx3 : rep M cx3 x3) (hz : takeFrameD fu x1 x2 x3 = some r) :
    Calls Try.prog 18 #[.agg cx1.toArray, .int .i64 x2, .agg cx3.toArray] w (Gives M w (fun M' u => ∃ c0 v1, u = .tuple #[.agg c0.toArray, v1, .int .i64 r.2.2] ∧ rep M' c0 r.1 ∧ repL M' v1 r.2.1)) := by
 refine calls_W Try.func18 rfl 185 rfl rfl (by kernel_rfl) fun T hT => ?_
 have hT_0 : T 0 = .agg cx1.toArray := hT 0
 have hT_1 : T 1 = .int .i64 x2 := hT 1
 have hT_2 : T 2 = .agg cx3.toArray := hT 2
 clear hT
 have hE := Mm.ext.refl w.heap.size noX M
 have hS : St w noX M [] w := St.start hA
 rw [takeFrameD] at hz
 refine W_seq <|W_reg ?_
 refine WL_c (O_box (v := .agg cx1.toArray) (cs := cx1) hT_0 rfl hS ?_)
 intro b5 w4 hb5 hS
 replace hS : St w noX M [.box b5 cx1 48] w4 := hS
 refine WL_c (O_box (v := .agg cx3.toArray) (cs := cx3) hT_2 rfl hS ?_)
 intro b7 w6 hb7 hS
 replace hS : St w noX M [.box b7 cx3 38, .box b5 cx1 48] w6 := hS
 refine WL_c (O_alloc tz48 hS ?_)
 intro b9 w8 hb9 hS
 replace hS : St w noX M [.box b9 (Zr.zc GNode) 48, .box b7 cx3 38, .box b5 cx1 48] w8 := hS
 have zb9 : rep M (Zr.zc GNode) (Zr.zd : GNode) := Zr.zr
 refine WL_d 2 rfl ?_
 refine WL_nil (nm_then ?_)
 refine W_seqJ (fun T' w' => ∃ M11 cs13 d14, Mm.ext w.heap.size noX M M11 ∧ St w noX M11 [.box b9 cs13 48, .box b7 cx3 38, .box b5 cx1 48] w' ∧ rep M11 cs13 d14 ∧ T' 1 = .int .i64 x2 ∧ T' 3 = .pointer (some ⟨b5, 0, none⟩) ∧ T' 5 = .pointer (some ⟨b7, 0, none⟩) ∧ T' 6 = .pointer (some ⟨b9, 0, none⟩) ∧ takeFrame_j1 fu x1 x2 x3 d14 = some r) ?_ ?_
 have hF332 := Mm.ext.refl w.heap.size noX M
 refine W_seqJ (fun T' w' => ∃ M334 c336, Mm.ext w.heap.size noX M M334 ∧ St w noX M334 [.box b9 (Zr.zc GNode) 48, .box b7 cx3 38, .box b5 cx1 48] w' ∧ T' 1 = .int .i64 x2 ∧ T' 3 = .pointer (some ⟨b5, 0, none⟩) ∧ T' 5 = .pointer (some ⟨b7, 0, none⟩) ∧ T' 6 = .pointer (some ⟨b9, 0, none⟩) ∧ T' 35 = .bool c336 ∧ takeFrame_j12 fu x1 x2 x3 c336 = some r) ?_ ?_
 have hF343 := Mm.ext.refl w.heap.size noX M
 refine W_reg ?_
 have ha344 := (rep_root (k := 201) rfl hcx1)
 refine WL_y (Y_ldn ta48 rfl (hS.bvB 2 rfl) (Rep.len ha344)) ?_
 obtain ⟨r347, hr346, hz⟩ := bind_ok hz
 refine WL_c (O_val (vs := [.agg (sl cx1 (0) 201).toArray]) (v := .bool r347) cb22 (args1 rfl) hS (isNode_ok hS.agree ha344 hr346) ?_)
 intro w345 hS
 refine WL_y (Y_not rfl) <|WL_y (Y_move (.bool (!r347)) rfl) ?_
 rcases ic hz with ⟨hc348, hz⟩ | ⟨hc348, hz⟩ <;> rw [hc348]
 refine WL_d 13 rfl ?_
 refine WL_nil (nm_then ?_)
 exact ⟨M, true, hF343, hS, hT_1, rfl, rfl, rfl, rfl, hz⟩
 refine WL_gy rfl rfl (Y_move (.int .i64 x2) hT_1) <|WL_gy rfl rfl (Y_lss rfl rfl) <|WL_d 2 rfl ?_
 rcases ic hz with ⟨hc349, hz⟩ | ⟨hc349, hz⟩ <;> rw [hc349]
 refine WL_d 9 rfl ?_
 refine WL_nil (nm_then ?_)
 exact ⟨M, true, hF343, hS, hT_1, rfl, rfl, rfl, rfl, hz⟩
 refine WL_gy rfl rfl (Y_move (.int .i64 x2) hT_1) <|WL_gy rfl rfl (Y_gtr rfl rfl) <|WL_d 2 rfl ?_
 rcases ic hz with ⟨hc350, hz⟩ | ⟨hc350, hz⟩ <;> rw [hc350]
 refine WL_d 5 rfl ?_
 refine WL_nil (nm_then ?_)
 exact ⟨M, true, hF343, hS, hT_1, rfl, rfl, rfl, rfl, hz⟩
 refine WL_gy rfl rfl (Y_fa fa38_1 rfl) <|WL_gy rfl rfl (Y_ld1 (.int .i64 x3.node) ts3 rfl (hS.bvB 1 rfl) (GFrame.p1 (rep_root (k := 7) rfl hcx3))) <|WL_gy rfl rfl (Y_move (.int .i64 x2) hT_1) <|WL_gy rfl rfl (Y_neq rfl rfl) <|WL_y (Y_pick_f (.bool (x3.node != x2)) rfl rfl) ?_
 refine WL_nil (nm_then ?_)
 exact ⟨M, (x3.node != x2), hF343, hS, hT_1, rfl, rfl, rfl, rfl, hz⟩
 rintro T335 w333 ⟨M334, c336, hx337, hS, hT335_1, hT335_3, hT335_5, hT335_6, hT335_35, hz⟩
 replace hcx1 := Rep.mono hx337.1 hcx1
 replace hcx3 := Rep.mono hx337.1 hcx3
 replace zb9 := Rep.mono hx337.1 zb9
 replace hE := Mm.ext.trans hE hx337
 replace hF332 := Mm.ext.trans hF332 hx337
 rw [takeFrame_j12] at hz
 refine W_cond hT335_35 (fun hc338 => ?_) (fun hc338 => ?_)
 replace hz := bif_ok_t hz hc338
 refine W_seq <|W_reg ?_
 have ha339 := (rep_root (k := 201) rfl hcx1)
 refine WL_y (Y_ldn ta48 hT335_3 (hS.bvB 2 rfl) (Rep.len ha339)) ?_
 have hw341 : ((sl cx1 (0) 201) : List Value).length = 201 := Rep.len ha339
 have hl341 : ((Zr.zc GNode)).length = 201 := Rep.len zb9
 obtain ⟨d342, hd341, hz⟩ := bind_ok hz
 have hb341 : rep M334 (pt (Zr.zc GNode) (0) (sl cx1 (0) 201)) d342 := rep_eq (rep_whole (k := 201) (by rw [pt_length (by omega)]; exact hl341) (rep_leaf rfl ha339 (by omega))) hd341
 generalize hg341 : (pt (Zr.zc GNode) (0) (sl cx1 (0) 201)) = cs341 at hb341
 refine WL_c (O_st (j := 0) (v := .agg (sl cx1 (0) 201).toArray) (ws := (sl cx1 (0) 201)) hS rfl (by kernel_rfl) hT335_6 rfl rfl hw341 (Rep.one ha339) (by omega) ?_)
 rw [hg341]
 clear hg341
 intro w340 hS
 replace hS : St w noX M334 [.box b9 cs341 48, .box b7 cx3 38, .box b5 cx1 48] w340 := hS
 refine WL_d 2 rfl ?_
 refine WL_nil (nm_then ?_)
 cases hz
 exact W_ret (rt_then (R_ctt (j := 0) rfl hT335_6 rfl rfl (by rw [Rep.len hb341]; exact ta48) hS rfl (Gives.mk (St.dropB (St.dropB (St.dropB hS hb9) hb7) hb5) hE ⟨_, _, rfl, hb341, (repL_nil _)⟩)))
 replace hz := bif_ok_f hz hc338
 refine W_skip (nm_then ?_)
 exact ⟨M334, (Zr.zc GNode), (Zr.zd : GNode), hF332, hS, zb9, hT335_1, hT335_3, hT335_5, hT335_6, hz⟩
 rintro T12 w10 ⟨M11, cs13, d14, hx15, hS, hb13, hT12_1, hT12_3, hT12_5, hT12_6, hz⟩
 replace hcx1 := Rep.mono hx15.1 hcx1
 replace hcx3 := Rep.mono hx15.1 hcx3
 replace hE := Mm.ext.trans hE hx15
 rw [takeFrame_j1] at hz
 refine W_seq <|W_seq <|W_reg ?_
 have ha16 := (rep_root (k := 7) rfl hcx3)
 refine WL_y (Y_ldn ta38 hT12_5 (hS.bvB 1 rfl) (Rep.len ha16)) ?_
 obtain ⟨r19, hr18, hz⟩ := bind_ok hz
 replace hr18 := Option.some.inj hr18
 refine WL_c (O_val (vs := [.agg (sl cx3 (0) 7).toArray]) (v := .int .i64 r19) cb54 (args1 rfl) hS (hr18 ▸ (c_isFrame hS.agree ha16)) ?_)
 intro w17 hS
 refine WL_y (Y_assign (.int .i64 r19) rfl) ?_
 refine WL_nil (nm_then ?_)
 refine W_seq <|W_reg <|WL_y (Y_move (.int .i64 r19) rfl) <|WL_y (Y_neq rfl rfl) ?_
 refine WL_nil (nm_then ?_)
 refine W_cond rfl (fun hc20 => ?_) (fun hc20 => ?_)
 replace hz := bif_ok_t hz hc20
 refine W_seq <|W_reg ?_
 have ha21 := (rep_root (k := 201) rfl hcx1)
 refine WL_y (Y_ldn ta48 hT12_3 (hS.bvB 2 rfl) (Rep.len ha21)) <|WL_y (Y_move (.int .i64 r19) rfl) ?_
 have hw23 : ((sl cx1 (0) 201) : List Value).length = 201 := Rep.len ha21
 have hl23 : (cs13).length = 201 := Rep.len hb13
 obtain ⟨d24, hd23, hz⟩ := bind_ok hz
 have hb23 : rep M11 (pt cs13 (0) (sl cx1 (0) 201)) d24 := rep_eq (rep_whole (k := 201) (by rw [pt_length (by omega)]; exact hl23) (rep_leaf rfl ha21 (by omega))) hd23
 generalize hg23 : (pt cs13 (0) (sl cx1 (0) 201)) = cs23 at hb23
 refine WL_c (O_st (j := 0) (v := .agg (sl cx1 (0) 201).toArray) (ws := (sl cx1 (0) 201)) hS rfl (by kernel_rfl) hT12_6 rfl rfl hw23 (Rep.one ha21) (by omega) ?_)
 rw [hg23]
 clear hg23
 intro w22 hS
 replace hS : St w noX M11 [.box b9 cs23 48, .box b7 cx3 38, .box b5 cx1 48] w22 := hS
 refine WL_d 2 rfl ?_
 refine WL_nil (nm_then ?_)
 cases hz
 exact W_ret (rt_then (R_ctt (j := 0) rfl hT12_6 rfl rfl (by rw [Rep.len hb23]; exact ta48) hS rfl (Gives.mk (St.dropB (St.dropB (St.dropB hS hb9) hb7) hb5) hE ⟨_, _, rfl, hb23, (repL_nil _)⟩)))
 replace hz := bif_ok_f hz hc20
 refine W_skip (nm_then ?_)
 refine W_seqJ (fun T' w' => ∃ M26 cs28 d29, Mm.ext w.heap.size noX M11 M26 ∧ St w noX M26 [.box b9 cs28 48, .box b7 cx3 38, .box b5 cx1 48] w' ∧ rep M26 cs28 d29 ∧ T' 1 = .int .i64 x2 ∧ T' 3 = .pointer (some ⟨b5, 0, none⟩) ∧ T' 5 = .pointer (some ⟨b7, 0, none⟩) ∧ T' 6 = .pointer (some ⟨b9, 0, none⟩) ∧ takeFrame_j2 fu x1 x2 x3 d29 = some r) ?_ ?_
 have hF319 := Mm.ext.refl w.heap.size noX M11
 refine W_seqJ (fun T' w' => ∃ M321 c323, Mm.ext w.heap.size noX M11 M321 ∧ St w noX M321 [.box b9 cs13 48, .box b7 cx3 38, .box b5 cx1 48] w' ∧ T' 1 = .int .i64 x2 ∧ T' 3 = .pointer (some ⟨b5, 0, none⟩) ∧ T' 5 = .pointer (some ⟨b7, 0, none⟩) ∧ T' 6 = .pointer (some ⟨b9, 0, none⟩) ∧ T' 50 = .bool c323 ∧ takeFrame_j11 fu x1 x2 x3 d14 c323 = some r) ?_ ?_
 have hF330 := Mm.ext.refl w.heap.size noX M11
 refine W_reg <|WL_y (Y_fa fa38_0 hT12_5) <|WL_y (Y_ld1 (.int .i64 x3.kind) ts3 rfl (hS.bvB 1 rfl) (GFrame.p0 (rep_root (k := 7) rfl hcx3))) <|WL_y (Y_neq rfl rfl) <|WL_y (Y_move (.bool (x3.kind != 1)) rfl) ?_
 rcases ic hz with ⟨hc331, hz⟩ | ⟨hc331, hz⟩ <;> rw [hc331]
 refine WL_gy rfl rfl (Y_fa fa38_0 hT12_5) <|WL_gy rfl rfl (Y_ld1 (.int .i64 x3.kind) ts3 rfl (hS.bvB 1 rfl) (GFrame.p0 (rep_root (k := 7) rfl hcx3))) <|WL_gy rfl rfl (Y_neq rfl rfl) <|WL_y (Y_pick_t (.bool (x3.kind != 3)) rfl rfl) ?_
 refine WL_nil (nm_then ?_)
 exact ⟨M11, (x3.kind != 3), hF330, hS, hT12_1, hT12_3, hT12_5, hT12_6, rfl, hz⟩
 refine WL_d 4 rfl ?_
 refine WL_nil (nm_then ?_)
 exact ⟨M11, false, hF330, hS, hT12_1, hT12_3, hT12_5, hT12_6, rfl, hz⟩
 rintro T322 w320 ⟨M321, c323, hx324, hS, hT322_1, hT322_3, hT322_5, hT322_6, hT322_50, hz⟩
 replace hcx1 := Rep.mono hx324.1 hcx1
 replace hcx3 := Rep.mono hx324.1 hcx3
 replace hb13 := Rep.mono hx324.1 hb13
 replace hE := Mm.ext.trans hE hx324
 replace hF319 := Mm.ext.trans hF319 hx324
 rw [takeFrame_j11] at hz
 refine W_cond hT322_50 (fun hc325 => ?_) (fun hc325 => ?_)
 replace hz := bif_ok_t hz hc325
 refine W_seq <|W_reg ?_
 have ha326 := (rep_root (k := 201) rfl hcx1)
 refine WL_y (Y_ldn ta48 hT322_3 (hS.bvB 2 rfl) (Rep.len ha326)) ?_
 have hw328 : ((sl cx1 (0) 201) : List Value).length = 201 := Rep.len ha326
 have hl328 : (cs13).length = 201 := Rep.len hb13
 obtain ⟨d329, hd328, hz⟩ := bind_ok hz
 have hb328 : rep M321 (pt cs13 (0) (sl cx1 (0) 201)) d329 := rep_eq (rep_whole (k := 201) (by rw [pt_length (by omega)]; exact hl328) (rep_leaf rfl ha326 (by omega))) hd328
 generalize hg328 : (pt cs13 (0) (sl cx1 (0) 201)) = cs328 at hb328
 refine WL_c (O_st (j := 0) (v := .agg (sl cx1 (0) 201).toArray) (ws := (sl cx1 (0) 201)) hS rfl (by kernel_rfl) hT322_6 rfl rfl hw328 (Rep.one ha326) (by omega) ?_)
 rw [hg328]
 clear hg328
 intro w327 hS
 replace hS : St w noX M321 [.box b9 cs328 48, .box b7 cx3 38, .box b5 cx1 48] w327 := hS
 refine WL_d 2 rfl ?_
 refine WL_nil (nm_then ?_)
 cases hz
 exact W_ret (rt_then (R_ctt (j := 0) rfl hT322_6 rfl rfl (by rw [Rep.len hb328]; exact ta48) hS rfl (Gives.mk (St.dropB (St.dropB (St.dropB hS hb9) hb7) hb5) hE ⟨_, _, rfl, hb328, (repL_nil _)⟩)))
 replace hz := bif_ok_f hz hc325
 refine W_skip (nm_then ?_)
 exact ⟨M321, cs13, d14, hF319, hS, hb13, hT322_1, hT322_3, hT322_5, hT322_6, hz⟩
 rintro T27 w25 ⟨M26, cs28, d29, hx30, hS, hb28, hT27_1, hT27_3, hT27_5, hT27_6, hz⟩
 replace hcx1 := Rep.mono hx30.1 hcx1
 replace hcx3 := Rep.mono hx30.1 hcx3
 replace hE := Mm.ext.trans hE hx30
 rw [takeFrame_j2] at hz
 refine W_seq <|W_reg <|WL_y (Y_move (.int .i64 x2) hT27_1) ?_
 obtain ⟨r33, hr32, hz⟩ := bind_ok hz
 replace hr32 := Option.some.inj hr32
 refine WL_c (O_val (vs := [.int .i64 x2]) (v := .int .i64 r33) cb55 (args1 rfl) hS (hr32 ▸ (c_ofNode)) ?_)
 intro w31 hS
 refine WL_y (Y_assign (.int .i64 r33) rfl) ?_
 refine WL_nil (nm_then ?_)
 refine W_seq <|W_reg ?_
 have ha34 := (rep_root (k := 201) rfl hcx1)
 refine WL_y (Y_ldn ta48 hT27_3 (hS.bvB 2 rfl) (Rep.len ha34)) ?_
 refine WL_c (O_alloc tz48 hS ?_)
 intro b36 w35 hb36 hS
 replace hS : St w noX M26 [.box b36 (Zr.zc GNode) 48, .box b9 cs28 48, .box b7 cx3 38, .box b5 cx1 48] w35 := hS
 have zb36 : rep M26 (Zr.zc GNode) (Zr.zd : GNode) := Zr.zr
 have hw38 : ((sl cx1 (0) 201) : List Value).length = 201 := Rep.len ha34
 have hl38 : ((Zr.zc GNode)).length = 201 := Rep.len zb36
 obtain ⟨d39, hd38, hz⟩ := bind_ok hz
 have hb38 : rep M26 (pt (Zr.zc GNode) (0) (sl cx1 (0) 201)) d39 := rep_eq (rep_whole (k := 201) (by rw [pt_length (by omega)]; exact hl38) (rep_leaf rfl ha34 (by omega))) hd38
 generalize hg38 : (pt (Zr.zc GNode) (0) (sl cx1 (0) 201)) = cs38 at hb38
 refine WL_c (O_st (j := 0) (v := .agg (sl cx1 (0) 201).toArray) (ws := (sl cx1 (0) 201)) hS rfl (by kernel_rfl) rfl rfl rfl hw38 (Rep.one ha34) (by omega) ?_)
 rw [hg38]
 clear hg38
 intro w37 hS
 replace hS : St w noX M26 [.box b36 cs38 48, .box b9 cs28 48, .box b7 cx3 38, .box b5 cx1 48] w37 := hS
 refine WL_nil (nm_then ?_)
 refine W_seq <|W_reg ?_
 have ha40 := (rep_root (k := 201) rfl hcx1)
 refine WL_y (Y_ldn ta48 hT27_3 (hS.bvB 3 rfl) (Rep.len ha40)) ?_
 obtain ⟨r43, hr42, hz⟩ := bind_ok hz
 refine WL_c (O_lend (vs := [.agg (sl cx1 (0) 201).toArray]) (L := []) (R := [.box b36 cs38 48, .box b9 cs28 48, .box b7 cx3 38, .box b5 cx1 48]) (rv := (fun M' u L' => ∃ c0 uR, u = .agg c0.toArray ∧ L' = [.row uR 3 1] ∧ rep M' c0 r43 ∧ sl c0 192 1 = [uR])) cb15 (args1 rfl) hS (hS.sel [0, 1, 2, 3] (by decide) rfl) (fun hS => copyNode_ok hS.agree ha40 hr42) ?_)
 rintro u42 M42 w41 L42 hx42 ⟨c0_42, uR_42, rfl, hL42, f42_0, f42_1⟩ hS
 replace hS := hS _ hL42
 replace hcx1 := Rep.mono hx42.1 hcx1
 replace hcx3 := Rep.mono hx42.1 hcx3
 replace hb28 := Rep.mono hx42.1 hb28
 replace hb38 := Rep.mono hx42.1 hb38
 replace ha40 := Rep.mono hx42.1 ha40
 replace hE := Mm.ext.trans hE hx42
 replace hS : St w noX M42 [.row uR_42 3 1, .box b36 cs38 48, .box b9 cs28 48, .box b7 cx3 38, .box b5 cx1 48] w41 := hS
 have hw46 : (c0_42 : List Value).length = 201 := Rep.len f42_0
 have hl46 : (cx1).length = 201 := Rep.len hcx1
 obtain ⟨d47, hd46, hz⟩ := bind_ok hz
 have hb46 : rep M42 (pt cx1 (0) c0_42) d47 := rep_eq (rep_whole (k := 201) (by rw [pt_length (by omega)]; exact hl46) (rep_leaf rfl f42_0 (by omega))) hd46
 have hp48 : sl (pt cx1 (0) c0_42) (0 + 192) 1 = [uR_42] := (sl_pt_sub (by omega) (by omega)).trans f42_1
 generalize hg46 : (pt cx1 (0) c0_42) = cs46 at hb46 hp48
 refine WL_c (O_st (j := 4) (v := .agg c0_42.toArray) (ws := c0_42) hS rfl (by kernel_rfl) hT27_3 rfl rfl hw46 (Rep.one f42_0) (by omega) ?_)
 rw [hg46]
 clear hg46
 intro w45 hS
 replace hS : St w noX M42 [.row uR_42 3 1, .box b36 cs38 48, .box b9 cs28 48, .box b7 cx3 38, .box b5 cs46 48] w45 := hS
 refine WL_nil (nm_then ?_)
 refine W_seq <|W_reg <|WL_y (Y_fa fa38_2 hT27_5) <|WL_y (Y_ld1 (.int .i64 x3.id) ts3 rfl (hS.bvB 3 rfl) (GFrame.p2 (rep_root (k := 7) rfl hcx3))) <|WL_y (Y_fa fa48_0 hT27_3) ?_
 obtain ⟨u49, hx50, hz⟩ := bind_ok hz
 obtain ⟨hx50a, hx50b⟩ := inR_some hx50
 refine WL_y (Y_ixA ia45 rfl rfl hx50a hx50b) ?_
 obtain ⟨x51, hx52, hz⟩ := bind_ok hz
 have ha53 := (vp (k := 6) rfl rfl (GNode.p0 (rep_root (k := 201) rfl hb46)) hx52)
 refine WL_y (Y_ldn ta44 rfl (hS.bvB 4 rfl) (Rep.len ha53)) ?_
 refine WL_c (O_alloc tz44 hS ?_)
 intro b55 w54 hb55 hS
 replace hS : St w noX M42 [.box b55 (Zr.zc GEntry) 44, .row uR_42 3 1, .box b36 cs38 48, .box b9 cs28 48, .box b7 cx3 38, .box b5 cs46 48] w54 := hS
 have zb55 : rep M42 (Zr.zc GEntry) (Zr.zd : GEntry) := Zr.zr
 have hw57 : ((sl cs46 (0 + 0 + Int.toNat x3.id * 6) 6) : List Value).length = 6 := Rep.len ha53
 have hl57 : ((Zr.zc GEntry)).length = 6 := Rep.len zb55
 obtain ⟨d58, hd57, hz⟩ := bind_ok hz
 have hb57 : rep M42 (pt (Zr.zc GEntry) (0) (sl cs46 (0 + 0 + Int.toNat x3.id * 6) 6)) d58 := rep_eq (rep_whole (k := 6) (by rw [pt_length (by omega)]; exact hl57) (rep_leaf rfl ha53 (by omega))) hd57
 generalize hg57 : (pt (Zr.zc GEntry) (0) (sl cs46 (0 + 0 + Int.toNat x3.id * 6) 6)) = cs57 at hb57
 refine WL_c (O_st (j := 0) (v := .agg (sl cs46 (0 + 0 + Int.toNat x3.id * 6) 6).toArray) (ws := (sl cs46 (0 + 0 + Int.toNat x3.id * 6) 6)) hS rfl (by kernel_rfl) rfl rfl rfl hw57 (Rep.one ha53) (by omega) ?_)
 rw [hg57]
 clear hg57
 intro w56 hS
 replace hS : St w noX M42 [.box b55 cs57 44, .row uR_42 3 1, .box b36 cs38 48, .box b9 cs28 48, .box b7 cx3 38, .box b5 cs46 48] w56 := hS
 refine WL_nil (nm_then ?_)
 refine W_seq <|W_seq <|W_reg <|WL_y (Y_fa fa38_0 hT27_5) <|WL_y (Y_ld1 (.int .i64 x3.kind) ts3 rfl (hS.bvB 4 rfl) (GFrame.p0 (rep_root (k := 7) rfl hcx3))) <|WL_y (Y_eql rfl rfl) ?_
 refine WL_nil (nm_then ?_)
 refine W_cond rfl (fun hc59 => ?_) (fun hc59 => ?_)
 replace hz := bif_ok_t hz hc59
 refine W_seq <|W_seq <|W_reg <|WL_y (Y_fa fa38_3 hT27_5) ?_
 obtain ⟨v60, ev60, hv60⟩ := (GFrame.p3 (rep_root (k := 7) rfl hcx3))
 refine WL_y (Y_ld1 v60 ts22 rfl (hS.bvB 4 rfl) ev60) <|WL_y (Y_move (.int .i64 r33) rfl) ?_
 obtain ⟨r63, hr62, hz⟩ := bind_ok hz
 replace hr62 := Option.some.inj hr62
 refine WL_c (O_val (vs := [v60, .int .i64 r33]) (v := .bool r63) cb56 (args2 rfl rfl) hS (hr62 ▸ (c_touchesShard hS.agree hv60)) ?_)
 intro w61 hS
 refine WL_y (Y_not rfl) ?_
 refine WL_nil (nm_then ?_)
 refine W_cond rfl (fun hc64 => ?_) (fun hc64 => ?_)
 replace hz := bif_ok_t hz hc64
 refine W_seq <|W_reg ?_
 have ha65 := (rep_root (k := 201) rfl hb38)
 refine WL_y (Y_ldn ta48 rfl (hS.bvB 2 rfl) (Rep.len ha65)) ?_
 have hw67 : ((sl cs38 (0) 201) : List Value).length = 201 := Rep.len ha65
 have hl67 : (cs28).length = 201 := Rep.len hb28
 obtain ⟨d68, hd67, hz⟩ := bind_ok hz
 have hb67 : rep M42 (pt cs28 (0) (sl cs38 (0) 201)) d68 := rep_eq (rep_whole (k := 201) (by rw [pt_length (by omega)]; exact hl67) (rep_leaf rfl ha65 (by omega))) hd67
 generalize hg67 : (pt cs28 (0) (sl cs38 (0) 201)) = cs67 at hb67
 refine WL_c (O_st (j := 3) (v := .agg (sl cs38 (0) 201).toArray) (ws := (sl cs38 (0) 201)) hS rfl (by kernel_rfl) hT27_6 rfl rfl hw67 (Rep.one ha65) (by omega) ?_)
 rw [hg67]
 clear hg67
 intro w66 hS
 replace hS : St w noX M42 [.box b55 cs57 44, .row uR_42 3 1, .box b36 cs38 48, .box b9 cs67 48, .box b7 cx3 38, .box b5 cs46 48] w66 := hS
 refine WL_d 2 rfl ?_
 refine WL_nil (nm_then ?_)
 cases hz
 exact W_ret (rt_then (rt_then (R_ctt (j := 3) rfl hT27_6 rfl rfl (by rw [Rep.len hb67]; exact ta48) hS rfl (Gives.mk (St.dropB (St.dropB (St.dropB (St.dropB (St.drop (St.dropB hS hb55)) hb36) hb9) hb7) hb5) hE ⟨_, _, rfl, hb67, (repL_nil _)⟩))))
 replace hz := bif_ok_f hz hc64
 refine W_skip (nm_then ?_)
 refine W_seqJ (fun T' w' => ∃ M70 cs72 d73 cs74 d75 v76, Mm.ext w.heap.size noX M42 M70 ∧ St w noX M70 [.box b55 cs72 44, .row v76 3 1, .box b36 cs38 48, .box b9 cs28 48, .box b7 cx3 38, .box b5 cs74 48] w' ∧ rep M70 cs72 d73 ∧ rep M70 cs74 d75 ∧ sl cs74 (0 + 192) 1 = [v76] ∧ T' 1 = .int .i64 x2 ∧ T' 3 = .pointer (some ⟨b5, 0, none⟩) ∧ T' 5 = .pointer (some ⟨b7, 0, none⟩) ∧ T' 6 = .pointer (some ⟨b9, 0, none⟩) ∧ T' 12 = .pointer (some ⟨b55, 0, none⟩) ∧ takeFrame_j3 x2 x3 d73 d75 = some r) ?_ ?_
 have hF107 := Mm.ext.refl w.heap.size noX M42
 refine W_seq <|W_reg <|WL_y (Y_fa fa44_0 rfl) <|WL_y (Y_ld1 (.int .i64 d58.state) ts3 rfl (hS.bvB 0 rfl) (GEntry.p0 (rep_root (k := 6) rfl hb57))) <|WL_y (Y_eql rfl rfl) ?_
 refine WL_nil (nm_then ?_)
 refine W_cond rfl (fun hc108 => ?_) (fun hc108 => ?_)
 replace hz := bif_ok_t hz hc108
 refine W_seq <|W_drawB (Rd M42 [.box b7 cx3 38, .box b5 cs46 48]) (inL []) mixed hS fun w109 hS => ?_
 have hG110 := Mm.ext.refl w.heap.size noX M42
 have hR111 : Rd M42 [.box b7 cx3 38, .box b5 cs46 48] w109 := Rd.of hS hG110 (by simp)
 refine WB_y (i := 0) rfl (by kernel_rfl) rfl (Y_fa fa38_3 hT27_5) (fun _ => hR111) ?_
 obtain ⟨v112, ev112, hv112⟩ := (GFrame.p3 (rep_root (k := 7) rfl hcx3))
 refine WB_ld (i := 1) rfl (by kernel_rfl) rfl (inL_lt rfl) (by kernel_rfl) (by kernel_rfl) (Y_ld1 v112 ts22 rfl (bvR 0 rfl) ev112) hR111 ?_
 have ha113 := (rep_root (k := 201) rfl hb46)
 have hp114 : sl (sl cs46 (0) 201) 192 1 = [uR_42] := (sl_sub (by decide)).trans hp48
 refine WB_ld (i := 2) rfl (by kernel_rfl) rfl (inL_lt rfl) (by kernel_rfl) (by kernel_rfl) (Y_ldn ta48 hT27_3 (bvR 1 rfl) (Rep.len ha113)) hR111 <|WB_y (i := 3) rfl (by kernel_rfl) rfl (Y_fa fa38_2 hT27_5) (fun _ => hR111) <|WB_ld (i := 4) rfl (by kernel_rfl) rfl (inL_lt rfl) (by kernel_rfl) (by kernel_rfl) (Y_ld1 (.int .i64 x3.id) ts3 rfl (bvR 0 rfl) (GFrame.p2 (rep_root (k := 7) rfl hcx3))) hR111 <|WB_y (i := 5) rfl (by kernel_rfl) rfl (Y_fa fa38_3 hT27_5) (fun _ => hR111) ?_
 obtain ⟨v115, ev115, hv115⟩ := (GFrame.p3 (rep_root (k := 7) rfl hcx3))
 refine WB_ld (i := 6) rfl (by kernel_rfl) rfl (inL_lt rfl) (by kernel_rfl) (by kernel_rfl) (Y_ld1 v115 ts22 rfl (bvR 0 rfl) ev115) hR111 <|WB_y (i := 7) rfl (by kernel_rfl) rfl (Y_move (.int .i64 r33) rfl) (fun _ => hR111) ?_
 obtain ⟨r118, hr117, hz⟩ := bind_ok hz
 refine WB_one (i := 8) (by kernel_rfl) rfl (O_mem (vs := [.agg (sl cs46 (0) 201).toArray, .int .i64 x3.id, v115, .int .i64 r33]) (rv := (fun M' u => repL M' u r118)) cb57 (args4 rfl rfl rfl rfl) hS (before_ok hS.agree ha113 hv115 hr117) ?_)
 intro u117 M117 w116 hx117 hu117 hS
 have f117 : repL M117 u117 r118 := hu117
 replace hcx3 := Rep.mono hx117.1 hcx3
 replace hb28 := Rep.mono hx117.1 hb28
 replace hb38 := Rep.mono hx117.1 hb38
 replace hb46 := Rep.mono hx117.1 hb46
 replace hb57 := Rep.mono hx117.1 hb57
 replace hv112 := repL.mono hx117.1 hv112
 replace ha113 := Rep.mono hx117.1 ha113
 replace hv115 := repL.mono hx117.1 hv115
 replace hE := Mm.ext.trans hE hx117
 replace hF107 := Mm.ext.trans hF107 hx117
 replace hG110 := Mm.ext.trans hG110 hx117
 have hR119 : Rd M42 [.box b7 cx3 38, .box b5 cs46 48] w116 := Rd.of hS hG110 (by simp)
 refine ⟨fun _ => hR119, ?_⟩
 have k120_0 := GEntry.w0 (Zr.zr : rep M117 (Zr.zc GEntry) (Zr.zd : GEntry)) (show rep M117 [Value.int .i64 1] (1 : Int) from rfl)
 have k120_1 := GEntry.w1 k120_0 (repL_rep hv112)
 have k120_2 := GEntry.w2 k120_1 (repL_rep f117)
 obtain ⟨d121, hd120, hz⟩ := bind_ok hz
 obtain ⟨cs120, hf120, ha120⟩ : ∃ cs, fillZ (([(0, 1), (1, 1), (2, 1), (3, 1), (4, 1), (5, 1)] : List (Nat × Nat))[·]?) (Zr.zc GEntry) [(0, .int .i64 1), (1, v112), (2, u117)] = some cs ∧ rep M117 cs d121 := ⟨_, (fz_cons (Zr.zr : rep M117 (Zr.zc GEntry) (Zr.zd : GEntry)) rfl rfl (Rep.len (show rep M117 [Value.int .i64 1] (1 : Int) from rfl)) (by decide) (fz_cons k120_0 rfl (repL_cells hv112) (Rep.len (repL_rep hv112)) (by decide) (fz_cons k120_1 rfl (repL_cells f117) (Rep.len (repL_rep f117)) (by decide) fz_nil))), rep_eq (x := ({ state := 1, ops := x3.ops, first := r118, deps := Zr.zd, at_ := Zr.zd, values := Zr.zd } : GEntry)) k120_2 hd120⟩
 refine WB_y (i := 9) rfl (by kernel_rfl) rfl (Y_build [(0, .int .i64 1), (1, v112), (2, u117)] tb44 (bpc rfl (bpc rfl (bpc rfl bp0))) hf120) (fun _ => hR119) ?_
 have hw123 : (cs120 : List Value).length = 6 := Rep.len ha120
 have hl123 : (cs57).length = 6 := Rep.len hb57
 obtain ⟨d124, hd123, hz⟩ := bind_ok hz
 have hb123 : rep M117 (pt cs57 (0) cs120) d124 := rep_eq (rep_whole (k := 6) (by rw [pt_length (by omega)]; exact hl123) (rep_leaf rfl ha120 (by omega))) hd123
 generalize hg123 : (pt cs57 (0) cs120) = cs123 at hb123
 refine WB_one (i := 10) (by kernel_rfl) rfl (O_st (j := 0) (v := .agg cs120.toArray) (ws := cs120) hS rfl (by kernel_rfl) rfl rfl rfl hw123 (Rep.one ha120) (by omega) ?_)
 rw [hg123]
 clear hg123
 intro w122 hS
 replace hS : St w noX M117 [.box b55 cs123 44, .row uR_42 3 1, .box b36 cs38 48, .box b9 cs28 48, .box b7 cx3 38, .box b5 cs46 48] w122 := hS
 have hR125 : Rd M42 [.box b7 cx3 38, .box b5 cs46 48] w122 := Rd.of hS hG110 (by simp)
 refine ⟨fun _ => hR125, ?_⟩
 refine WB_done (by kernel_rfl) (nm_then ?_)
 refine W_reg <|WL_y (Y_fa fa38_2 hT27_5) <|WL_y (Y_ld1 (.int .i64 x3.id) ts3 rfl (hS.bvB 4 rfl) (GFrame.p2 (rep_root (k := 7) rfl hcx3))) ?_
 have ha126 := (rep_root (k := 6) rfl hb123)
 refine WL_y (Y_ldn ta44 rfl (hS.bvB 0 rfl) (Rep.len ha126)) <|WL_y (Y_fa fa48_0 hT27_3) ?_
 obtain ⟨u127, hx128, hz⟩ := bind_ok hz
 obtain ⟨hx128a, hx128b⟩ := inR_some hx128
 refine WL_y (Y_ixA ia45 rfl rfl hx128a hx128b) ?_
 obtain ⟨x131, hx132, hz⟩ := bind_ok hz
 have hw130 : ((sl cs123 (0) 6) : List Value).length = 6 := Rep.len ha126
 have hl130 : (cs46).length = 201 := Rep.len hb46
 have hq133 := (idxV_some hx132)
 obtain ⟨a134, hx135, hz⟩ := bind_ok hz
 obtain ⟨d136, hd130, hz⟩ := bind_ok hz
 have hb130 : rep M117 (pt cs46 (0 + 0 + Int.toNat x3.id * 6) (sl cs123 (0) 6)) d136 := rep_eq (rep_whole (k := 201) (by rw [pt_length (by omega)]; exact hl130) (GNode.s0 (rep_root (k := 201) rfl hb46) (vs (k := 6) rfl rfl (GNode.p0 (rep_root (k := 201) rfl hb46)) (rep_leaf rfl ha126 (by omega)) hx135 (by omega) (by omega) (by omega)) (by omega) (by omega) (by omega))) hd130
 have hp137 : sl (pt cs46 (0 + 0 + Int.toNat x3.id * 6) (sl cs123 (0) 6)) (0 + 192) 1 = [uR_42] := (sl_pt_apart (by omega) (by omega)).trans hp48
 generalize hg130 : (pt cs46 (0 + 0 + Int.toNat x3.id * 6) (sl cs123 (0) 6)) = cs130 at hb130 hp137
 refine WL_c (O_st (j := 5) (v := .agg (sl cs123 (0) 6).toArray) (ws := (sl cs123 (0) 6)) hS rfl (by kernel_rfl) rfl rfl rfl hw130 (Rep.one ha126) (by omega) ?_)
 rw [hg130]
 clear hg130
 intro w129 hS
 replace hS : St w noX M117 [.box b55 cs123 44, .row uR_42 3 1, .box b36 cs38 48, .box b9 cs28 48, .box b7 cx3 38, .box b5 cs130 48] w129 := hS
 refine WL_nil (nm_then ?_)
 exact ⟨M117, cs123, d124, cs130, d136, uR_42, hF107, hS, hb123, hb130, hp137, hT27_1, hT27_3, hT27_5, hT27_6, rfl, hz⟩
 replace hz := bif_ok_f hz hc108
 refine W_skip (nm_then ?_)
 exact ⟨M42, cs57, d58, cs46, d47, uR_42, hF107, hS, hb57, hb46, hp48, hT27_1, hT27_3, hT27_5, hT27_6, rfl, hz⟩
 rintro T71 w69 ⟨M70, cs72, d73, cs74, d75, v76, hx78, hS, hb72, hb74, hp77, hT71_1, hT71_3, hT71_5, hT71_6, hT71_12, hz⟩
 replace hcx3 := Rep.mono hx78.1 hcx3
 replace hb28 := Rep.mono hx78.1 hb28
 replace hb38 := Rep.mono hx78.1 hb38
 replace hE := Mm.ext.trans hE hx78
 rw [takeFrame_j3] at hz
 refine W_seqJ (fun T' w' => ∃ M80 cs82 d83 v85 l84 y86, Mm.ext w.heap.size noX M70 M80 ∧ St w noX M80 [.box b55 cs72 44, .row v76 3 1, .box b36 cs38 48, .box b9 cs82 48, .box b7 cx3 38, .box b5 cs74 48] w' ∧ rep M80 cs82 d83 ∧ repL M80 v85 l84 ∧ T' 6 = .pointer (some ⟨b9, 0, none⟩) ∧ T' 7 = v85 ∧ T' 8 = .int .i64 y86 ∧ takeFrame_j4 d83 l84 y86 = some r) ?_ ?_
 have hF88 := Mm.ext.refl w.heap.size noX M70
 refine W_drawB (Rd M70 [.box b55 cs72 44, .box b7 cx3 38, .box b5 cs74 48]) (inL []) mixed hS fun w89 hS => ?_
 have hG90 := Mm.ext.refl w.heap.size noX M70
 have hR91 : Rd M70 [.box b55 cs72 44, .box b7 cx3 38, .box b5 cs74 48] w89 := Rd.of hS hG90 (by simp)
 have ha92 := (rep_root (k := 201) rfl hb74)
 have hp93 : sl (sl cs74 (0) 201) 192 1 = [v76] := (sl_sub (by decide)).trans hp77
 refine WB_ld (i := 0) rfl (by kernel_rfl) rfl (inL_lt rfl) (by kernel_rfl) (by kernel_rfl) (Y_ldn ta48 hT71_3 (bvR 2 rfl) (Rep.len ha92)) hR91 <|WB_y (i := 1) rfl (by kernel_rfl) rfl (Y_move (.int .i64 x2) hT71_1) (fun _ => hR91) <|WB_y (i := 2) rfl (by kernel_rfl) rfl (Y_fa fa38_2 hT71_5) (fun _ => hR91) <|WB_ld (i := 3) rfl (by kernel_rfl) rfl (inL_lt rfl) (by kernel_rfl) (by kernel_rfl) (Y_ld1 (.int .i64 x3.id) ts3 rfl (bvR 1 rfl) (GFrame.p2 (rep_root (k := 7) rfl hcx3))) hR91 <|WB_y (i := 4) rfl (by kernel_rfl) rfl (Y_fa fa44_2 hT71_12) (fun _ => hR91) ?_
 obtain ⟨v94, ev94, hv94⟩ := (GEntry.p2 (rep_root (k := 6) rfl hb72))
 refine WB_ld (i := 5) rfl (by kernel_rfl) rfl (inL_lt rfl) (by kernel_rfl) (by kernel_rfl) (Y_ld1 v94 ts27 rfl (bvR 0 rfl) ev94) hR91 ?_
 have k95_0 := GFrame.w0 (Zr.zr : rep M70 (Zr.zc GFrame) (Zr.zd : GFrame)) (show rep M70 [Value.int .i64 2] (2 : Int) from rfl)
 have k95_1 := GFrame.w1 k95_0 (show rep M70 [Value.int .i64 x2] (x2 : Int) from rfl)
 have k95_2 := GFrame.w2 k95_1 (show rep M70 [Value.int .i64 x3.id] (x3.id : Int) from rfl)
 have k95_3 := GFrame.w4 k95_2 (repL_rep hv94)
 obtain ⟨d96, hd95, hz⟩ := bind_ok hz
 obtain ⟨cs95, hf95, ha95⟩ : ∃ cs, fillZ (([(0, 1), (1, 1), (2, 1), (3, 1), (4, 1), (5, 1), (6, 1)] : List (Nat × Nat))[·]?) (Zr.zc GFrame) [(0, .int .i64 2), (1, .int .i64 x2), (2, .int .i64 x3.id), (4, v94)] = some cs ∧ rep M70 cs d96 := ⟨_, (fz_cons (Zr.zr : rep M70 (Zr.zc GFrame) (Zr.zd : GFrame)) rfl rfl (Rep.len (show rep M70 [Value.int .i64 2] (2 : Int) from rfl)) (by decide) (fz_cons k95_0 rfl rfl (Rep.len (show rep M70 [Value.int .i64 x2] (x2 : Int) from rfl)) (by decide) (fz_cons k95_1 rfl rfl (Rep.len (show rep M70 [Value.int .i64 x3.id] (x3.id : Int) from rfl)) (by decide) (fz_cons k95_2 rfl (repL_cells hv94) (Rep.len (repL_rep hv94)) (by decide) fz_nil)))), rep_eq (x := ({ kind := 2, node := x2, id := x3.id, ops := Zr.zd, deps := d73.first, at_ := Zr.zd, vals := Zr.zd } : GFrame)) k95_3 hd95⟩
 refine WB_y (i := 6) rfl (by kernel_rfl) rfl (Y_build [(0, .int .i64 2), (1, .int .i64 x2), (2, .int .i64 x3.id), (4, v94)] tb38 (bpc rfl (bpc rfl (bpc rfl (bpc rfl bp0)))) hf95) (fun _ => hR91) ?_
 obtain ⟨d101, hd100, hz⟩ := bind_ok hz
 have hw100 : ((sl cs74 (0) 201) : List Value).length = 201 := Rep.len ha92
 have hl100 : (cs28).length = 201 := Rep.len hb28
 have hb100 : rep M70 (pt cs28 (0) (sl cs74 (0) 201)) d101 := rep_eq (rep_whole (k := 201) (by rw [pt_length (by omega)]; exact hl100) (rep_leaf rfl ha92 (by omega))) hd100
 have hp102 : sl (pt cs28 (0) (sl cs74 (0) 201)) (0 + 192) 1 = [v76] := (sl_pt_sub (by omega) (by omega)).trans hp93
 generalize hg100 : (pt cs28 (0) (sl cs74 (0) 201)) = cs100 at hb100 hp102
 refine WB_two (i := 7) (j := 8) (by kernel_rfl) rfl rfl (O_bslice (α := GFrame) (l := ([d96] : List GFrame)) [.agg cs95.toArray] tl25 (bpc rfl bp0) rfl rfl (by decide) (by decide) (by decide) hS (brc ha95 br0) ?_) (O_st (j := 3) (v := .agg (sl cs74 (0) 201).toArray) (ws := (sl cs74 (0) 201)) hS rfl (by kernel_rfl) hT71_6 rfl rfl hw100 (Rep.one ha92) (by omega) ?_)
 intro v98 M98 w97 hx98 hv98 hS
 replace hcx3 := Rep.mono hx98.1 hcx3
 replace hb28 := Rep.mono hx98.1 hb28
 replace hb38 := Rep.mono hx98.1 hb38
 replace hb72 := Rep.mono hx98.1 hb72
 replace hb74 := Rep.mono hx98.1 hb74
 replace ha92 := Rep.mono hx98.1 ha92
 replace hv94 := repL.mono hx98.1 hv94
 replace ha95 := Rep.mono hx98.1 ha95
 replace hE := Mm.ext.trans hE hx98
 replace hF88 := Mm.ext.trans hF88 hx98
 replace hG90 := Mm.ext.trans hG90 hx98
 have hR103 : Rd M70 [.box b55 cs72 44, .box b7 cx3 38, .box b5 cs74 48] w97 := Rd.of hS hG90 (by simp)
 refine ⟨fun _ => hR103, ?_⟩
 have hw100 : ((sl cs74 (0) 201) : List Value).length = 201 := Rep.len ha92
 have hl100 : (cs28).length = 201 := Rep.len hb28
 have hb100 : rep M98 (pt cs28 (0) (sl cs74 (0) 201)) d101 := rep_eq (rep_whole (k := 201) (by rw [pt_length (by omega)]; exact hl100) (rep_leaf rfl ha92 (by omega))) hd100
 have hp102 : sl (pt cs28 (0) (sl cs74 (0) 201)) (0 + 192) 1 = [v76] := (sl_pt_sub (by omega) (by omega)).trans hp93
 generalize hg100 : (pt cs28 (0) (sl cs74 (0) 201)) = cs100 at hb100 hp102
 refine WB_one (i := 8) (by kernel_rfl) rfl (O_st (j := 3) (v := .agg (sl cs74 (0) 201).toArray) (ws := (sl cs74 (0) 201)) hS rfl (by kernel_rfl) hT71_6 rfl rfl hw100 (Rep.one ha92) (by omega) ?_)
 rw [hg100]
 clear hg100
 intro w99 hS
 replace hS : St w noX M98 [.box b55 cs72 44, .row v76 3 1, .box b36 cs38 48, .box b9 cs100 48, .box b7 cx3 38, .box b5 cs74 48] w99 := hS
 have hR104 : Rd M70 [.box b55 cs72 44, .box b7 cx3 38, .box b5 cs74 48] w99 := Rd.of hS hG90 (by simp)
 refine ⟨fun _ => hR104, ?_⟩
 refine WB_y (i := 9) rfl (by kernel_rfl) rfl (Y_assign (v98) rfl) (fun _ => hR104) <|WB_y (i := 10) rfl (by kernel_rfl) rfl (Y_assign (.int .i64 0) rfl) (fun _ => hR104) ?_
 refine WB_done (by kernel_rfl) (nm_then ?_)
 exact ⟨M98, cs100, d101, v98, ([d96] : List GFrame), (0 : Int), hF88, hS, hb100, hv98, hT71_6, rfl, rfl, hz⟩
 rw [hg100]
 clear hg100
 intro w99 hS
 replace hS : St w noX M70 [.box b55 cs72 44, .row v76 3 1, .box b36 cs38 48, .box b9 cs100 48, .box b7 cx3 38, .box b5 cs74 48] w99 := hS
 have hR105 : Rd M70 [.box b55 cs72 44, .box b7 cx3 38, .box b5 cs74 48] w99 := Rd.of hS hG90 (by simp)
 refine ⟨fun _ => hR105, ?_⟩
 refine WB_one (i := 7) (by kernel_rfl) rfl (O_bslice (α := GFrame) (l := ([d96] : List GFrame)) [.agg cs95.toArray] tl25 (bpc rfl bp0) rfl rfl (by decide) (by decide) (by decide) hS (brc ha95 br0) ?_)
 intro v98 M98 w97 hx98 hv98 hS
 replace hcx3 := Rep.mono hx98.1 hcx3
 replace hb38 := Rep.mono hx98.1 hb38
 replace hb72 := Rep.mono hx98.1 hb72
 replace hb74 := Rep.mono hx98.1 hb74
 replace ha92 := Rep.mono hx98.1 ha92
 replace hv94 := repL.mono hx98.1 hv94
 replace ha95 := Rep.mono hx98.1 ha95
 replace hb100 := Rep.mono hx98.1 hb100
 replace hE := Mm.ext.trans hE hx98
 replace hF88 := Mm.ext.trans hF88 hx98
 replace hG90 := Mm.ext.trans hG90 hx98
 have hR106 : Rd M70 [.box b55 cs72 44, .box b7 cx3 38, .box b5 cs74 48] w97 := Rd.of hS hG90 (by simp)
 refine ⟨fun _ => hR106, ?_⟩
 refine WB_y (i := 9) rfl (by kernel_rfl) rfl (Y_assign (v98) rfl) (fun _ => hR106) <|WB_y (i := 10) rfl (by kernel_rfl) rfl (Y_assign (.int .i64 0) rfl) (fun _ => hR106) ?_
 refine WB_done (by kernel_rfl) (nm_then ?_)
 exact ⟨M98, cs100, d101, v98, ([d96] : List GFrame), (0 : Int), hF88, hS, hb100, hv98, hT71_6, rfl, rfl, hz⟩
 rintro T81 w79 ⟨M80, cs82, d83, v85, l84, y86, hx87, hS, hb82, hv85, hT81_6, hT81_7, hT81_8, hz⟩
 replace hcx3 := Rep.mono hx87.1 hcx3
 replace hb38 := Rep.mono hx87.1 hb38
 replace hb72 := Rep.mono hx87.1 hb72
 replace hb74 := Rep.mono hx87.1 hb74
 replace hE := Mm.ext.trans hE hx87
 rw [takeFrame_j4] at hz
 cases hz
 exact W_ret (rt_then (R_ctt (j := 3) rfl hT81_6 hT81_7 hT81_8 (by rw [Rep.len hb82]; exact ta48) hS rfl (Gives.mk (St.dropB (St.dropB (St.dropB (St.dropB (St.drop (St.dropB hS hb55)) hb36) hb9) hb7) hb5) hE ⟨_, _, rfl, hb82, hv85⟩)))
 replace hz := bif_ok_f hz hc59
 refine W_skip (nm_then ?_)
 refine W_seqJ (fun T' w' => ∃ M139 cs141 d142 cs143 d144 v145, Mm.ext w.heap.size noX M42 M139 ∧ St w noX M139 [.box b55 cs141 44, .row v145 3 1, .box b36 cs38 48, .box b9 cs28 48, .box b7 cx3 38, .box b5 cs143 48] w' ∧ rep M139 cs141 d142 ∧ rep M139 cs143 d144 ∧ sl cs143 (0 + 192) 1 = [v145] ∧ T' 1 = .int .i64 x2 ∧ T' 3 = .pointer (some ⟨b5, 0, none⟩) ∧ T' 5 = .pointer (some ⟨b7, 0, none⟩) ∧ T' 6 = .pointer (some ⟨b9, 0, none⟩) ∧ T' 10 = .int .i64 r33 ∧ takeFrame_j5 x2 x3 r33 d142 d144 = some r) ?_ ?_
 have hF197 := Mm.ext.refl w.heap.size noX M42
 refine W_seq <|W_reg <|WL_y (Y_fa fa44_0 rfl) <|WL_y (Y_ld1 (.int .i64 d58.state) ts3 rfl (hS.bvB 0 rfl) (GEntry.p0 (rep_root (k := 6) rfl hb57))) <|WL_y (Y_lss rfl rfl) ?_
 refine WL_nil (nm_then ?_)
 refine W_cond rfl (fun hc198 => ?_) (fun hc198 => ?_)
 replace hz := bif_ok_t hz hc198
 refine W_seqJ (fun T' w' => ∃ M200 cs202 d203, Mm.ext w.heap.size noX M42 M200 ∧ St w noX M200 [.box b55 cs202 44, .row uR_42 3 1, .box b36 cs38 48, .box b9 cs28 48, .box b7 cx3 38, .box b5 cs46 48] w' ∧ rep M200 cs202 d203 ∧ T' 1 = .int .i64 x2 ∧ T' 3 = .pointer (some ⟨b5, 0, none⟩) ∧ T' 5 = .pointer (some ⟨b7, 0, none⟩) ∧ T' 6 = .pointer (some ⟨b9, 0, none⟩) ∧ T' 10 = .int .i64 r33 ∧ T' 12 = .pointer (some ⟨b55, 0, none⟩) ∧ takeFrame_j8 fu x2 x3 r33 d47 d203 = some r) ?_ ?_
 have hF308 := Mm.ext.refl w.heap.size noX M42
 refine W_seq <|W_reg <|WL_y (Y_fa fa44_0 rfl) <|WL_y (Y_ld1 (.int .i64 d58.state) ts3 rfl (hS.bvB 0 rfl) (GEntry.p0 (rep_root (k := 6) rfl hb57))) <|WL_y (Y_eql rfl rfl) ?_
 refine WL_nil (nm_then ?_)
 refine W_cond rfl (fun hc309 => ?_) (fun hc309 => ?_)
 replace hz := bif_ok_t hz hc309
 refine W_reg ?_
 have ha310 := (rep_root (k := 201) rfl hb46)
 have hp311 : sl (sl cs46 (0) 201) 192 1 = [uR_42] := (sl_sub (by decide)).trans hp48
 refine WL_y (Y_ldn ta48 hT27_3 (hS.bvB 5 rfl) (Rep.len ha310)) <|WL_y (Y_fa fa38_2 hT27_5) <|WL_y (Y_ld1 (.int .i64 x3.id) ts3 rfl (hS.bvB 4 rfl) (GFrame.p2 (rep_root (k := 7) rfl hcx3))) <|WL_y (Y_fa fa38_3 hT27_5) ?_
 obtain ⟨v312, ev312, hv312⟩ := (GFrame.p3 (rep_root (k := 7) rfl hcx3))
 refine WL_y (Y_ld1 v312 ts22 rfl (hS.bvB 4 rfl) ev312) <|WL_y (Y_move (.int .i64 r33) rfl) ?_
 obtain ⟨r315, hr314, hz⟩ := bind_ok hz
 refine WL_c (O_mem (vs := [.agg (sl cs46 (0) 201).toArray, .int .i64 x3.id, v312, .int .i64 r33]) (rv := (fun M' u => repL M' u r315)) cb57 (args4 rfl rfl rfl rfl) hS (before_ok hS.agree ha310 hv312 hr314) ?_)
 intro u314 M314 w313 hx314 hu314 hS
 have f314 : repL M314 u314 r315 := hu314
 replace hcx3 := Rep.mono hx314.1 hcx3
 replace hb28 := Rep.mono hx314.1 hb28
 replace hb38 := Rep.mono hx314.1 hb38
 replace hb46 := Rep.mono hx314.1 hb46
 replace hb57 := Rep.mono hx314.1 hb57
 replace ha310 := Rep.mono hx314.1 ha310
 replace hv312 := repL.mono hx314.1 hv312
 replace hE := Mm.ext.trans hE hx314
 replace hF197 := Mm.ext.trans hF197 hx314
 replace hF308 := Mm.ext.trans hF308 hx314
 refine WL_y (Y_fa fa44_2 rfl) ?_
 have hw317 : ([u314] : List Value).length = 1 := Rep.len (repL_rep f314)
 have hl317 : (cs57).length = 6 := Rep.len hb57
 obtain ⟨d318, hd317, hz⟩ := bind_ok hz
 have hb317 : rep M314 (pt cs57 (0 + 2) [u314]) d318 := rep_eq (rep_whole (k := 6) (by rw [pt_length (by omega)]; exact hl317) (GEntry.s2 (rep_root (k := 6) rfl hb57) (rep_leaf rfl (repL_rep f314) (by omega)) (by omega) (by omega) (by omega))) hd317
 generalize hg317 : (pt cs57 (0 + 2) [u314]) = cs317 at hb317
 refine WL_c (O_st (j := 0) (v := u314) (ws := [u314]) hS rfl (by kernel_rfl) rfl rfl (repL_cells f314) hw317 (Rep.one (repL_rep f314)) (by omega) ?_)
 rw [hg317]
 clear hg317
 intro w316 hS
 replace hS : St w noX M314 [.box b55 cs317 44, .row uR_42 3 1, .box b36 cs38 48, .box b9 cs28 48, .box b7 cx3 38, .box b5 cs46 48] w316 := hS
 refine WL_nil (nm_then ?_)
 exact ⟨M314, cs317, d318, hF308, hS, hb317, hT27_1, hT27_3, hT27_5, hT27_6, rfl, rfl, hz⟩
 replace hz := bif_ok_f hz hc309
 refine W_skip (nm_then ?_)
 exact ⟨M42, cs57, d58, hF308, hS, hb57, hT27_1, hT27_3, hT27_5, hT27_6, rfl, rfl, hz⟩
 rintro T201 w199 ⟨M200, cs202, d203, hx204, hS, hb202, hT201_1, hT201_3, hT201_5, hT201_6, hT201_10, hT201_12, hz⟩
 replace hcx3 := Rep.mono hx204.1 hcx3
 replace hb28 := Rep.mono hx204.1 hb28
 replace hb38 := Rep.mono hx204.1 hb38
 replace hb46 := Rep.mono hx204.1 hb46
 replace hE := Mm.ext.trans hE hx204
 replace hF197 := Mm.ext.trans hF197 hx204
 rw [takeFrame_j8] at hz
 refine W_seq <|W_drawB (Rd M200 [.box b7 cx3 38]) (inL []) mixed hS fun w205 hS => ?_
 have hG206 := Mm.ext.refl w.heap.size noX M200
 have hR207 : Rd M200 [.box b7 cx3 38] w205 := Rd.of hS hG206 (by simp)
 refine WB_y (i := 0) rfl (by kernel_rfl) rfl (Y_fa fa38_3 hT201_5) (fun _ => hR207) ?_
 obtain ⟨v208, ev208, hv208⟩ := (GFrame.p3 (rep_root (k := 7) rfl hcx3))
 refine WB_ld (i := 1) rfl (by kernel_rfl) rfl (inL_lt rfl) (by kernel_rfl) (by kernel_rfl) (Y_ld1 v208 ts22 rfl (bvR 0 rfl) ev208) hR207 <|WB_y (i := 2) rfl (by kernel_rfl) rfl (Y_fa fa38_4 hT201_5) (fun _ => hR207) ?_
 obtain ⟨v209, ev209, hv209⟩ := (GFrame.p4 (rep_root (k := 7) rfl hcx3))
 refine WB_ld (i := 3) rfl (by kernel_rfl) rfl (inL_lt rfl) (by kernel_rfl) (by kernel_rfl) (Y_ld1 v209 ts27 rfl (bvR 0 rfl) ev209) hR207 <|WB_y (i := 4) rfl (by kernel_rfl) rfl (Y_fa fa44_0 hT201_12) (fun _ => hR207) ?_
 have hw211 : ([.int .i64 2] : List Value).length = 1 := Rep.len (show rep M200 [Value.int .i64 2] (2 : Int) from rfl)
 have hl211 : (cs202).length = 6 := Rep.len hb202
 obtain ⟨d212, hd211, hz⟩ := bind_ok hz
 have hb211 : rep M200 (pt cs202 (0 + 0) [.int .i64 2]) d212 := rep_eq (rep_whole (k := 6) (by rw [pt_length (by omega)]; exact hl211) (GEntry.s0 (rep_root (k := 6) rfl hb202) (rep_leaf rfl (show rep M200 [Value.int .i64 2] (2 : Int) from rfl) (by omega)) (by omega) (by omega) (by omega))) hd211
 generalize hg211 : (pt cs202 (0 + 0) [.int .i64 2]) = cs211 at hb211
 refine WB_one (i := 5) (by kernel_rfl) rfl (O_st (j := 0) (v := .int .i64 2) (ws := [.int .i64 2]) hS rfl (by kernel_rfl) rfl rfl rfl hw211 (Rep.one (show rep M200 [Value.int .i64 2] (2 : Int) from rfl)) (by omega) ?_)
 rw [hg211]
 clear hg211
 intro w210 hS
 replace hS : St w noX M200 [.box b55 cs211 44, .row uR_42 3 1, .box b36 cs38 48, .box b9 cs28 48, .box b7 cx3 38, .box b5 cs46 48] w210 := hS
 have hR213 : Rd M200 [.box b7 cx3 38] w210 := Rd.of hS hG206 (by simp)
 refine ⟨fun _ => hR213, ?_⟩
 refine WB_y (i := 6) rfl (by kernel_rfl) rfl (Y_fa fa44_1 hT201_12) (fun _ => hR213) ?_
 have hw215 : ([v208] : List Value).length = 1 := Rep.len (repL_rep hv208)
 have hl215 : (cs211).length = 6 := Rep.len hb211
 obtain ⟨d216, hd215, hz⟩ := bind_ok hz
 have hb215 : rep M200 (pt cs211 (0 + 1) [v208]) d216 := rep_eq (rep_whole (k := 6) (by rw [pt_length (by omega)]; exact hl215) (GEntry.s1 (rep_root (k := 6) rfl hb211) (rep_leaf rfl (repL_rep hv208) (by omega)) (by omega) (by omega) (by omega))) hd215
 generalize hg215 : (pt cs211 (0 + 1) [v208]) = cs215 at hb215
 refine WB_one (i := 7) (by kernel_rfl) rfl (O_st (j := 0) (v := v208) (ws := [v208]) hS rfl (by kernel_rfl) rfl rfl (repL_cells hv208) hw215 (Rep.one (repL_rep hv208)) (by omega) ?_)
 rw [hg215]
 clear hg215
 intro w214 hS
 replace hS : St w noX M200 [.box b55 cs215 44, .row uR_42 3 1, .box b36 cs38 48, .box b9 cs28 48, .box b7 cx3 38, .box b5 cs46 48] w214 := hS
 have hR217 : Rd M200 [.box b7 cx3 38] w214 := Rd.of hS hG206 (by simp)
 refine ⟨fun _ => hR217, ?_⟩
 refine WB_y (i := 8) rfl (by kernel_rfl) rfl (Y_fa fa44_3 hT201_12) (fun _ => hR217) ?_
 have hw219 : ([v209] : List Value).length = 1 := Rep.len (repL_rep hv209)
 have hl219 : (cs215).length = 6 := Rep.len hb215
 obtain ⟨d220, hd219, hz⟩ := bind_ok hz
 have hb219 : rep M200 (pt cs215 (0 + 3) [v209]) d220 := rep_eq (rep_whole (k := 6) (by rw [pt_length (by omega)]; exact hl219) (GEntry.s3 (rep_root (k := 6) rfl hb215) (rep_leaf rfl (repL_rep hv209) (by omega)) (by omega) (by omega) (by omega))) hd219
 generalize hg219 : (pt cs215 (0 + 3) [v209]) = cs219 at hb219
 refine WB_one (i := 9) (by kernel_rfl) rfl (O_st (j := 0) (v := v209) (ws := [v209]) hS rfl (by kernel_rfl) rfl rfl (repL_cells hv209) hw219 (Rep.one (repL_rep hv209)) (by omega) ?_)
 rw [hg219]
 clear hg219
 intro w218 hS
 replace hS : St w noX M200 [.box b55 cs219 44, .row uR_42 3 1, .box b36 cs38 48, .box b9 cs28 48, .box b7 cx3 38, .box b5 cs46 48] w218 := hS
 have hR221 : Rd M200 [.box b7 cx3 38] w218 := Rd.of hS hG206 (by simp)
 refine ⟨fun _ => hR221, ?_⟩
 refine WB_done (by kernel_rfl) (nm_then ?_)
 refine W_seq <|W_reg <|WL_y (Y_fa fa38_2 hT201_5) <|WL_y (Y_ld1 (.int .i64 x3.id) ts3 rfl (hS.bvB 4 rfl) (GFrame.p2 (rep_root (k := 7) rfl hcx3))) ?_
 have ha222 := (rep_root (k := 6) rfl hb219)
 refine WL_y (Y_ldn ta44 hT201_12 (hS.bvB 0 rfl) (Rep.len ha222)) <|WL_y (Y_fa fa48_0 hT201_3) ?_
 obtain ⟨u223, hx224, hz⟩ := bind_ok hz
 obtain ⟨hx224a, hx224b⟩ := inR_some hx224
 refine WL_y (Y_ixA ia45 rfl rfl hx224a hx224b) ?_
 obtain ⟨x227, hx228, hz⟩ := bind_ok hz
 have hw226 : ((sl cs219 (0) 6) : List Value).length = 6 := Rep.len ha222
 have hl226 : (cs46).length = 201 := Rep.len hb46
 have hq229 := (idxV_some hx228)
 obtain ⟨a230, hx231, hz⟩ := bind_ok hz
 obtain ⟨d232, hd226, hz⟩ := bind_ok hz
 have hb226 : rep M200 (pt cs46 (0 + 0 + Int.toNat x3.id * 6) (sl cs219 (0) 6)) d232 := rep_eq (rep_whole (k := 201) (by rw [pt_length (by omega)]; exact hl226) (GNode.s0 (rep_root (k := 201) rfl hb46) (vs (k := 6) rfl rfl (GNode.p0 (rep_root (k := 201) rfl hb46)) (rep_leaf rfl ha222 (by omega)) hx231 (by omega) (by omega) (by omega)) (by omega) (by omega) (by omega))) hd226
 have hp233 : sl (pt cs46 (0 + 0 + Int.toNat x3.id * 6) (sl cs219 (0) 6)) (0 + 192) 1 = [uR_42] := (sl_pt_apart (by omega) (by omega)).trans hp48
 generalize hg226 : (pt cs46 (0 + 0 + Int.toNat x3.id * 6) (sl cs219 (0) 6)) = cs226 at hb226 hp233
 refine WL_c (O_st (j := 5) (v := .agg (sl cs219 (0) 6).toArray) (ws := (sl cs219 (0) 6)) hS rfl (by kernel_rfl) rfl rfl rfl hw226 (Rep.one ha222) (by omega) ?_)
 rw [hg226]
 clear hg226
 intro w225 hS
 replace hS : St w noX M200 [.box b55 cs219 44, .row uR_42 3 1, .box b36 cs38 48, .box b9 cs28 48, .box b7 cx3 38, .box b5 cs226 48] w225 := hS
 refine WL_nil (nm_then ?_)
 refine W_seq <|W_reg ?_
 have ha234 := (rep_root (k := 201) rfl hb226)
 have hp235 : sl (sl cs226 (0) 201) 192 1 = [uR_42] := (sl_sub (by decide)).trans hp233
 refine WL_y (Y_ldn ta48 hT201_3 (hS.bvB 5 rfl) (Rep.len ha234)) ?_
 obtain ⟨r238, hr237, hz⟩ := bind_ok hz
 refine WL_c (O_mem (vs := [.agg (sl cs226 (0) 201).toArray]) (rv := (fun M' u => ∃ cs, u = .agg cs.toArray ∧ rep M' cs r238)) cb58 (args1 rfl) hS (graphOf_ok hS.agree ha234 hr237) ?_)
 intro u237 M237 w236 hx237 hu237 hS
 obtain ⟨c237, hq237, f237⟩ := hu237
 subst hq237
 replace hcx3 := Rep.mono hx237.1 hcx3
 replace hb28 := Rep.mono hx237.1 hb28
 replace hb38 := Rep.mono hx237.1 hb38
 replace hb219 := Rep.mono hx237.1 hb219
 replace hb226 := Rep.mono hx237.1 hb226
 replace ha234 := Rep.mono hx237.1 ha234
 replace hE := Mm.ext.trans hE hx237
 replace hF197 := Mm.ext.trans hF197 hx237
 refine WL_c (O_alloc tz64 hS ?_)
 intro b240 w239 hb240 hS
 replace hS : St w noX M237 [.box b240 (Zr.zc GGraph) 64, .box b55 cs219 44, .row uR_42 3 1, .box b36 cs38 48, .box b9 cs28 48, .box b7 cx3 38, .box b5 cs226 48] w239 := hS
 have zb240 : rep M237 (Zr.zc GGraph) (Zr.zd : GGraph) := Zr.zr
 have hw242 : (c237 : List Value).length = 64 := Rep.len f237
 have hl242 : ((Zr.zc GGraph)).length = 64 := Rep.len zb240
 obtain ⟨d243, hd242, hz⟩ := bind_ok hz
 have hb242 : rep M237 (pt (Zr.zc GGraph) (0) c237) d243 := rep_eq (rep_whole (k := 64) (by rw [pt_length (by omega)]; exact hl242) (rep_leaf rfl f237 (by omega))) hd242
 generalize hg242 : (pt (Zr.zc GGraph) (0) c237) = cs242 at hb242
 refine WL_c (O_st (j := 0) (v := .agg c237.toArray) (ws := c237) hS rfl (by kernel_rfl) rfl rfl rfl hw242 (Rep.one f237) (by omega) ?_)
 rw [hg242]
 clear hg242
 intro w241 hS
 replace hS : St w noX M237 [.box b240 cs242 64, .box b55 cs219 44, .row uR_42 3 1, .box b36 cs38 48, .box b9 cs28 48, .box b7 cx3 38, .box b5 cs226 48] w241 := hS
 refine WL_nil (nm_then ?_)
 refine W_seq <|W_reg <|WL_y (Y_move (.int .i64 0) rfl) ?_
 refine WL_nil (nm_then ?_)
 refine W_block ?_
 refine W_loop (fun k253 T' w' => ∃ M245 cs247 d248 v249 y251, Mm.ext w.heap.size noX M237 M245 ∧ St w noX M245 [.box b240 cs242 64, .box b55 cs219 44, .row v249 3 1, .box b36 cs38 48, .box b9 cs28 48, .box b7 cx3 38, .box b5 cs247 48] w' ∧ rep M245 cs247 d248 ∧ sl cs247 (0 + 192) 1 = [v249] ∧ T' 1 = .int .i64 x2 ∧ T' 3 = .pointer (some ⟨b5, 0, none⟩) ∧ T' 5 = .pointer (some ⟨b7, 0, none⟩) ∧ T' 6 = .pointer (some ⟨b9, 0, none⟩) ∧ T' 10 = .int .i64 r33 ∧ T' 13 = .pointer (some ⟨b240, 0, none⟩) ∧ T' 125 = .int .i64 y251 ∧ takeFrame_l1 fu x2 x3 r33 d220 d243 k253 d248 y251 = some r) fu ?_ ?_ ?_
 exact ⟨M237, cs226, d232, uR_42, (0 : Int), (Mm.ext.refl _ _ _), hS, hb226, hp233, hT201_1, hT201_3, hT201_5, hT201_6, hT201_10, rfl, rfl, hz⟩
 rintro T' w' ⟨_, _, _, _, _, _, _, _, _, _, _, _, _, _, _, _, hz⟩
 rw [takeFrame_l1] at hz
 cases hz
 intro k253
 rintro T246 w244 ⟨M245, cs247, d248, v249, y251, hx255, hS, hb247, hp250, hT246_1, hT246_3, hT246_5, hT246_6, hT246_10, hT246_13, hT246_125, hz⟩
 replace hcx3 := Rep.mono hx255.1 hcx3
 replace hb28 := Rep.mono hx255.1 hb28
 replace hb38 := Rep.mono hx255.1 hb38
 replace hb219 := Rep.mono hx255.1 hb219
 replace hb242 := Rep.mono hx255.1 hb242
 replace hE := Mm.ext.trans hE hx255
 replace hF197 := Mm.ext.trans hF197 hx255
 have hF254 := hx255
 rw [takeFrame_l1] at hz
 obtain ⟨rec252, hrec252⟩ : ∃ f, f = takeFrame_l1 fu x2 x3 r33 d220 d243 k253 := ⟨_, rfl⟩
 rw [← hrec252] at hz
 refine W_seq <|W_reg <|WL_y (Y_lss hT246_125 rfl) ?_
 refine WL_nil (nm_then ?_)
 refine W_seq ?_
 refine W_cond rfl (fun hc256 => ?_) (fun hc256 => ?_)
 replace hz := bif_ok_t hz hc256
 refine W_skip (nm_then ?_)
 refine W_seqJ (fun T' w' => ∃ M258 cs260 d261 v262, Mm.ext w.heap.size noX M245 M258 ∧ St w noX M258 [.box b240 cs242 64, .box b55 cs219 44, .row v262 3 1, .box b36 cs38 48, .box b9 cs28 48, .box b7 cx3 38, .box b5 cs260 48] w' ∧ rep M258 cs260 d261 ∧ sl cs260 (0 + 192) 1 = [v262] ∧ T' 1 = .int .i64 x2 ∧ T' 3 = .pointer (some ⟨b5, 0, none⟩) ∧ T' 5 = .pointer (some ⟨b7, 0, none⟩) ∧ T' 6 = .pointer (some ⟨b9, 0, none⟩) ∧ T' 10 = .int .i64 r33 ∧ T' 13 = .pointer (some ⟨b240, 0, none⟩) ∧ T' 125 = .int .i64 y251 ∧ takeFrame_j9 y251 rec252 d261 = some r) ?_ ?_
 have hF265 := Mm.ext.refl w.heap.size noX M245
 refine W_block <|W_seq <|W_reg <|WL_y (Y_move (.int .i64 y251) hT246_125) <|WL_y (Y_assign (.int .i64 y251) rfl) ?_
 refine WL_nil (nm_then ?_)
 refine W_seq <|W_seq <|W_reg <|WL_y (Y_move (.int .i64 y251) rfl) <|WL_y (Y_fa fa48_0 hT246_3) ?_
 obtain ⟨u266, hx267, hz⟩ := bind_ok hz
 obtain ⟨hx267a, hx267b⟩ := inR_some hx267
 refine WL_y (Y_ixA ia45 rfl rfl hx267a hx267b) <|WL_y (Y_fa fa44_0 rfl) ?_
 obtain ⟨x268, hx269, hz⟩ := bind_ok hz
 refine WL_y (Y_ld1 (.int .i64 x268.state) ts3 rfl (hS.bvB 6 rfl) (GEntry.p0 (vp (k := 6) rfl rfl (GNode.p0 (rep_root (k := 201) rfl hb247)) hx269))) <|WL_y (Y_neq rfl rfl) ?_
 refine WL_nil (nm_then ?_)
 refine W_cond rfl (fun hc270 => ?_) (fun hc270 => ?_)
 replace hz := bif_ok_t hz hc270
 refine W_exit <|ex_then <|ex_hit ?_
 refine (nm_then ?_)
 exact ⟨M245, cs247, d248, v249, hF265, hS, hb247, hp250, hT246_1, hT246_3, hT246_5, hT246_6, hT246_10, hT246_13, hT246_125, hz⟩
 replace hz := bif_ok_f hz hc270
 refine W_skip (nm_then ?_)
 refine W_seq <|W_reg ?_
 have ha271 := (rep_root (k := 64) rfl hb242)
 refine WL_y (Y_ldn ta64 hT246_13 (hS.bvB 0 rfl) (Rep.len ha271)) <|WL_y (Y_move (.int .i64 y251) rfl) ?_
 obtain ⟨r274, hr273, hz⟩ := bind_ok hz
 refine WL_c (O_mem (vs := [.agg (sl cs242 (0) 64).toArray, .int .i64 y251]) (rv := (fun M' u => repL M' u r274)) cb59 (args2 rfl rfl) hS (orderOf_ok hS.agree ha271 hr273) ?_)
 intro u273 M273 w272 hx273 hu273 hS
 have f273 : repL M273 u273 r274 := hu273
 replace hcx3 := Rep.mono hx273.1 hcx3
 replace hb28 := Rep.mono hx273.1 hb28
 replace hb38 := Rep.mono hx273.1 hb38
 replace hb219 := Rep.mono hx273.1 hb219
 replace hb242 := Rep.mono hx273.1 hb242
 replace hb247 := Rep.mono hx273.1 hb247
 replace ha271 := Rep.mono hx273.1 ha271
 replace hE := Mm.ext.trans hE hx273
 replace hF197 := Mm.ext.trans hF197 hx273
 replace hF254 := Mm.ext.trans hF254 hx273
 replace hF265 := Mm.ext.trans hF265 hx273
 obtain ⟨a275, c275, hv275, _⟩ := repL_shape f273
 refine WL_y (Y_lenL Try.underlying27 (tr2 hv275 rfl)) <|WL_y (Y_move (.int .i64 0) rfl) ?_
 refine WL_nil (nm_then ?_)
 refine W_block ?_
 refine W_loop (fun k285 T' w' => ∃ M277 cs279 d280 v281 y283, Mm.ext w.heap.size noX M273 M277 ∧ St w noX M277 [.box b240 cs242 64, .box b55 cs219 44, .row v281 3 1, .box b36 cs38 48, .box b9 cs28 48, .box b7 cx3 38, .box b5 cs279 48] w' ∧ rep M277 cs279 d280 ∧ sl cs279 (0 + 192) 1 = [v281] ∧ T' 1 = .int .i64 x2 ∧ T' 3 = .pointer (some ⟨b5, 0, none⟩) ∧ T' 5 = .pointer (some ⟨b7, 0, none⟩) ∧ T' 6 = .pointer (some ⟨b9, 0, none⟩) ∧ T' 10 = .int .i64 r33 ∧ T' 13 = .pointer (some ⟨b240, 0, none⟩) ∧ T' 125 = .int .i64 y251 ∧ T' 136 = u273 ∧ T' 137 = .int .i64 (r274.length : Int) ∧ T' 138 = .int .i64 y283 ∧ takeFrame_l2 fu r33 y251 rec252 r274 k285 d280 y283 = some r) fu ?_ ?_ ?_
 exact ⟨M273, cs247, d248, v249, (0 : Int), (Mm.ext.refl _ _ _), hS, hb247, hp250, hT246_1, hT246_3, hT246_5, hT246_6, hT246_10, hT246_13, hT246_125, rfl, rfl, rfl, hz⟩
 rintro T' w' ⟨_, _, _, _, _, _, _, _, _, _, _, _, _, _, _, _, _, _, _, hz⟩
 rw [takeFrame_l2] at hz
 cases hz
 intro k285
 rintro T278 w276 ⟨M277, cs279, d280, v281, y283, hx287, hS, hb279, hp282, hT278_1, hT278_3, hT278_5, hT278_6, hT278_10, hT278_13, hT278_125, hT278_136, hT278_137, hT278_138, hz⟩
 replace hcx3 := Rep.mono hx287.1 hcx3
 replace hb28 := Rep.mono hx287.1 hb28
 replace hb38 := Rep.mono hx287.1 hb38
 replace hb219 := Rep.mono hx287.1 hb219
 replace hb242 := Rep.mono hx287.1 hb242
 replace f273 := repL.mono hx287.1 f273
 replace hE := Mm.ext.trans hE hx287
 replace hF197 := Mm.ext.trans hF197 hx287
 replace hF254 := Mm.ext.trans hF254 hx287
 replace hF265 := Mm.ext.trans hF265 hx287
 have hF286 := hx287
 rw [takeFrame_l2] at hz
 obtain ⟨rec284, hrec284⟩ : ∃ f, f = takeFrame_l2 fu r33 y251 rec252 r274 k285 := ⟨_, rfl⟩
 rw [← hrec284] at hz
 refine W_seq <|W_reg <|WL_y (Y_lss hT278_138 hT278_137) ?_
 refine WL_nil (nm_then ?_)
 refine W_seq ?_
 refine W_cond rfl (fun hc288 => ?_) (fun hc288 => ?_)
 replace hz := bif_ok_t hz hc288
 refine W_skip (nm_then ?_)
 refine W_seqJ (fun T' w' => ∃ M290 cs292 d293 v294, Mm.ext w.heap.size noX M277 M290 ∧ St w noX M290 [.box b240 cs242 64, .box b55 cs219 44, .row v294 3 1, .box b36 cs38 48, .box b9 cs28 48, .box b7 cx3 38, .box b5 cs292 48] w' ∧ rep M290 cs292 d293 ∧ sl cs292 (0 + 192) 1 = [v294] ∧ T' 1 = .int .i64 x2 ∧ T' 3 = .pointer (some ⟨b5, 0, none⟩) ∧ T' 5 = .pointer (some ⟨b7, 0, none⟩) ∧ T' 6 = .pointer (some ⟨b9, 0, none⟩) ∧ T' 10 = .int .i64 r33 ∧ T' 13 = .pointer (some ⟨b240, 0, none⟩) ∧ T' 125 = .int .i64 y251 ∧ T' 136 = u273 ∧ T' 137 = .int .i64 (r274.length : Int) ∧ T' 138 = .int .i64 y283 ∧ takeFrame_j10 y283 rec284 d293 = some r) ?_ ?_
 have hF297 := Mm.ext.refl w.heap.size noX M277
 refine W_block <|W_seq <|W_reg ?_
 obtain ⟨x299, hx298, hz⟩ := bind_ok hz
 obtain ⟨b298, o298, c298, p298, hv298, hi298, hj298, hM298, hr298⟩ := repL_at f273 hx298
 replace hr298 : rep _ (sl p298 (o298 + Int.toNat y283 * 1) 1) x299 := hr298
 refine WL_y (Y_ixL il27 hT278_136 hv298 hT278_138 hi298 hj298) <|WL_y (Y_ld1 (.int .i64 x299) ts3 rfl (hS.bvM hM298) hr298) <|WL_y (Y_assign (.int .i64 x299) rfl) ?_
 refine WL_nil (nm_then ?_)
 refine W_seq <|W_reg <|WL_y (Y_move (.int .i64 x299) rfl) <|WL_y (Y_fa fa48_0 hT278_3) ?_
 obtain ⟨u300, hx301, hz⟩ := bind_ok hz
 obtain ⟨hx301a, hx301b⟩ := inR_some hx301
 refine WL_y (Y_ixA ia45 rfl rfl hx301a hx301b) <|WL_y (Y_fa fa44_0 rfl) ?_
 obtain ⟨x302, hx303, hz⟩ := bind_ok hz
 refine WL_y (Y_ld1 (.int .i64 x302.state) ts3 rfl (hS.bvB 6 rfl) (GEntry.p0 (vp (k := 6) rfl rfl (GNode.p0 (rep_root (k := 201) rfl hb279)) hx303))) <|WL_y (Y_eql rfl rfl) ?_
 refine WL_nil (nm_then ?_)
 refine W_cond rfl (fun hc304 => ?_) (fun hc304 => ?_)
 replace hz := bif_ok_t hz hc304
 refine W_reg <|WL_y (Y_move (.int .i64 x299) rfl) <|WL_y (Y_move (.int .i64 r33) hT278_10) ?_
 obtain ⟨r307, hr306, hz⟩ := bind_ok hz
 refine WL_c (O_lend (vs := [.pointer (some ⟨b5, 0, none⟩), .int .i64 x299, .int .i64 r33]) (L := [.box b5 cs279 48, .row v281 3 1]) (R := [.box b240 cs242 64, .box b55 cs219 44, .box b36 cs38 48, .box b9 cs28 48, .box b7 cx3 38]) (rv := (fun M' u L' => ∃ k0 u1, u = .tuple #[] ∧ L' = [.box b5 k0 48, .row u1 3 1] ∧ rep M' k0 r307 ∧ sl k0 192 1 = [u1])) cb60 (args3 hT278_3 rfl rfl) hS (hS.sel [6, 2, 0, 1, 3, 4, 5] (by decide) rfl) (fun hS => executeOne_ok hS hb279 hp282 hr306) ?_)
 rintro u306 M306 w305 L306 hx306 ⟨k0_306, u1_306, rfl, hL306, f306_0, f306_1⟩ hS
 replace hS := hS _ hL306
 replace hcx3 := Rep.mono hx306.1 hcx3
 replace hb28 := Rep.mono hx306.1 hb28
 replace hb38 := Rep.mono hx306.1 hb38
 replace hb219 := Rep.mono hx306.1 hb219
 replace hb242 := Rep.mono hx306.1 hb242
 replace f273 := repL.mono hx306.1 f273
 replace hb279 := Rep.mono hx306.1 hb279
 replace hE := Mm.ext.trans hE hx306
 replace hF197 := Mm.ext.trans hF197 hx306
 replace hF254 := Mm.ext.trans hF254 hx306
 replace hF265 := Mm.ext.trans hF265 hx306
 replace hF286 := Mm.ext.trans hF286 hx306
 replace hF297 := Mm.ext.trans hF297 hx306
 replace hS : St w noX M306 [.box b5 k0_306 48, .row u1_306 3 1, .box b240 cs242 64, .box b55 cs219 44, .box b36 cs38 48, .box b9 cs28 48, .box b7 cx3 38] w305 := hS
 refine WL_nil (nm_blk ?_)
 refine (nm_then ?_)
 exact ⟨M306, k0_306, r307, u1_306, hF297, (hS.sel (H' := [.box b240 cs242 64, .box b55 cs219 44, .row u1_306 3 1, .box b36 cs38 48, .box b9 cs28 48, .box b7 cx3 38, .box b5 k0_306 48]) [2, 3, 1, 4, 5, 6, 0] (by decide) rfl), f306_0, f306_1, hT278_1, hT278_3, hT278_5, hT278_6, hT278_10, hT278_13, hT278_125, hT278_136, hT278_137, hT278_138, hz⟩
 replace hz := bif_ok_f hz hc304
 refine W_skip (nm_blk ?_)
 refine (nm_then ?_)
 exact ⟨M277, cs279, d280, v281, hF297, hS, hb279, hp282, hT278_1, hT278_3, hT278_5, hT278_6, hT278_10, hT278_13, hT278_125, hT278_136, hT278_137, hT278_138, hz⟩
 rintro T291 w289 ⟨M290, cs292, d293, v294, hx296, hS, hb292, hp295, hT291_1, hT291_3, hT291_5, hT291_6, hT291_10, hT291_13, hT291_125, hT291_136, hT291_137, hT291_138, hz⟩
 replace hcx3 := Rep.mono hx296.1 hcx3
 replace hb28 := Rep.mono hx296.1 hb28
 replace hb38 := Rep.mono hx296.1 hb38
 replace hb219 := Rep.mono hx296.1 hb219
 replace hb242 := Rep.mono hx296.1 hb242
 replace f273 := repL.mono hx296.1 f273
 replace hE := Mm.ext.trans hE hx296
 replace hF197 := Mm.ext.trans hF197 hx296
 replace hF254 := Mm.ext.trans hF254 hx296
 replace hF265 := Mm.ext.trans hF265 hx296
 replace hF286 := Mm.ext.trans hF286 hx296
 rw [takeFrame_j10] at hz
 refine W_reg <|WL_y (Y_add hT291_138 rfl) <|WL_y (Y_move (.int .i64 (IntKind.wrap .i64 (y283 + 1))) rfl) ?_
 refine WL_nil (nm_then ?_)
 exact ⟨M290, cs292, d293, v294, (IntKind.wrap .i64 (y283 + 1)), hF286, hS, hb292, hp295, hT291_1, hT291_3, hT291_5, hT291_6, hT291_10, hT291_13, hT291_125, hT291_136, hT291_137, rfl, (by rw [← hrec284]; exact hz)⟩
 replace hz := bif_ok_f hz hc288
 refine W_exit <|ex_then <|ex_then <|ex_hit ?_
 refine (nm_blk ?_)
 refine (nm_then ?_)
 exact ⟨M277, cs279, d280, v281, hF265, hS, hb279, hp282, hT278_1, hT278_3, hT278_5, hT278_6, hT278_10, hT278_13, hT278_125, hz⟩
 rintro T259 w257 ⟨M258, cs260, d261, v262, hx264, hS, hb260, hp263, hT259_1, hT259_3, hT259_5, hT259_6, hT259_10, hT259_13, hT259_125, hz⟩
 replace hcx3 := Rep.mono hx264.1 hcx3
 replace hb28 := Rep.mono hx264.1 hb28
 replace hb38 := Rep.mono hx264.1 hb38
 replace hb219 := Rep.mono hx264.1 hb219
 replace hb242 := Rep.mono hx264.1 hb242
 replace hE := Mm.ext.trans hE hx264
 replace hF197 := Mm.ext.trans hF197 hx264
 replace hF254 := Mm.ext.trans hF254 hx264
 rw [takeFrame_j9] at hz
 refine W_reg <|WL_y (Y_add hT259_125 rfl) <|WL_y (Y_move (.int .i64 (IntKind.wrap .i64 (y251 + 1))) rfl) ?_
 refine WL_nil (nm_then ?_)
 exact ⟨M258, cs260, d261, v262, (IntKind.wrap .i64 (y251 + 1)), hF254, hS, hb260, hp263, hT259_1, hT259_3, hT259_5, hT259_6, hT259_10, hT259_13, rfl, (by rw [← hrec252]; exact hz)⟩
 replace hz := bif_ok_f hz hc256
 refine W_exit <|ex_then <|ex_then <|ex_hit ?_
 refine (nm_then ?_)
 exact ⟨M245, cs219, d220, cs247, d248, v249, hF197, (St.dropB hS hb240), hb219, hb247, hp250, hT246_1, hT246_3, hT246_5, hT246_6, hT246_10, hz⟩
 replace hz := bif_ok_f hz hc198
 refine W_skip (nm_then ?_)
 exact ⟨M42, cs57, d58, cs46, d47, uR_42, hF197, hS, hb57, hb46, hp48, hT27_1, hT27_3, hT27_5, hT27_6, rfl, hz⟩
 rintro T140 w138 ⟨M139, cs141, d142, cs143, d144, v145, hx147, hS, hb141, hb143, hp146, hT140_1, hT140_3, hT140_5, hT140_6, hT140_10, hz⟩
 replace hcx3 := Rep.mono hx147.1 hcx3
 replace hb28 := Rep.mono hx147.1 hb28
 replace hb38 := Rep.mono hx147.1 hb38
 replace hE := Mm.ext.trans hE hx147
 rw [takeFrame_j5] at hz
 refine W_seq <|W_reg <|WL_y (Y_move (.int .i64 x2) hT140_1) <|WL_y (Y_fa fa38_2 hT140_5) <|WL_y (Y_ld1 (.int .i64 x3.id) ts3 rfl (hS.bvB 4 rfl) (GFrame.p2 (rep_root (k := 7) rfl hcx3))) ?_
 have k148_0 := GFrame.w0 (Zr.zr : rep M139 (Zr.zc GFrame) (Zr.zd : GFrame)) (show rep M139 [Value.int .i64 4] (4 : Int) from rfl)
 have k148_1 := GFrame.w1 k148_0 (show rep M139 [Value.int .i64 x2] (x2 : Int) from rfl)
 have k148_2 := GFrame.w2 k148_1 (show rep M139 [Value.int .i64 x3.id] (x3.id : Int) from rfl)
 obtain ⟨d149, hd148, hz⟩ := bind_ok hz
 obtain ⟨cs148, hf148, ha148⟩ : ∃ cs, fillZ (([(0, 1), (1, 1), (2, 1), (3, 1), (4, 1), (5, 1), (6, 1)] : List (Nat × Nat))[·]?) (Zr.zc GFrame) [(0, .int .i64 4), (1, .int .i64 x2), (2, .int .i64 x3.id)] = some cs ∧ rep M139 cs d149 := ⟨_, (fz_cons (Zr.zr : rep M139 (Zr.zc GFrame) (Zr.zd : GFrame)) rfl rfl (Rep.len (show rep M139 [Value.int .i64 4] (4 : Int) from rfl)) (by decide) (fz_cons k148_0 rfl rfl (Rep.len (show rep M139 [Value.int .i64 x2] (x2 : Int) from rfl)) (by decide) (fz_cons k148_1 rfl rfl (Rep.len (show rep M139 [Value.int .i64 x3.id] (x3.id : Int) from rfl)) (by decide) fz_nil))), rep_eq (x := ({ kind := 4, node := x2, id := x3.id, ops := Zr.zd, deps := Zr.zd, at_ := Zr.zd, vals := Zr.zd } : GFrame)) k148_2 hd148⟩
 refine WL_y (Y_build [(0, .int .i64 4), (1, .int .i64 x2), (2, .int .i64 x3.id)] tb38 (bpc rfl (bpc rfl (bpc rfl bp0))) hf148) ?_
 refine WL_c (O_bsliceR (α := GFrame) (l := ([d149] : List GFrame)) [.agg cs148.toArray] tp25 (bpc rfl bp0) rfl rfl (by decide) (by decide) (by decide) hS (brc ha148 br0) ?_)
 intro v151 M151 w150 hx151 hv151 hS
 replace hcx3 := Rep.mono hx151.1 hcx3
 replace hb28 := Rep.mono hx151.1 hb28
 replace hb38 := Rep.mono hx151.1 hb38
 replace hb141 := Rep.mono hx151.1 hb141
 replace hb143 := Rep.mono hx151.1 hb143
 replace ha148 := Rep.mono hx151.1 ha148
 replace hE := Mm.ext.trans hE hx151
 replace hS : St w noX M151 [.row v151 38 7, .box b55 cs141 44, .row v145 3 1, .box b36 cs38 48, .box b9 cs28 48, .box b7 cx3 38, .box b5 cs143 48] w150 := hS
 refine WL_y (Y_assign (v151) rfl) ?_
 refine WL_nil (nm_then ?_)
 refine W_seqJ (fun T' w' => ∃ M154 v157 l156, Mm.ext w.heap.size noX M151 M154 ∧ St w noX M154 [.row v157 38 7, .box b55 cs141 44, .row v145 3 1, .box b36 cs38 48, .box b9 cs28 48, .box b7 cx3 38, .box b5 cs143 48] w' ∧ repL M154 v157 l156 ∧ T' 3 = .pointer (some ⟨b5, 0, none⟩) ∧ T' 6 = .pointer (some ⟨b9, 0, none⟩) ∧ T' 17 = v157 ∧ takeFrame_j6 d144 l156 = some r) ?_ ?_
 have hF165 := Mm.ext.refl w.heap.size noX M151
 refine W_seq <|W_reg <|WL_y (Y_fa fa38_2 hT140_5) <|WL_y (Y_ld1 (.int .i64 x3.id) ts3 rfl (hS.bvB 5 rfl) (GFrame.p2 (rep_root (k := 7) rfl hcx3))) <|WL_y (Y_fa fa48_0 hT140_3) ?_
 obtain ⟨u166, hx167, hz⟩ := bind_ok hz
 obtain ⟨hx167a, hx167b⟩ := inR_some hx167
 refine WL_y (Y_ixA ia45 rfl rfl hx167a hx167b) ?_
 obtain ⟨x168, hx169, hz⟩ := bind_ok hz
 have ha170 := (vp (k := 6) rfl rfl (GNode.p0 (rep_root (k := 201) rfl hb143)) hx169)
 refine WL_y (Y_ldn ta44 rfl (hS.bvB 6 rfl) (Rep.len ha170)) ?_
 refine WL_c (O_alloc tz44 hS ?_)
 intro b172 w171 hb172 hS
 replace hS : St w noX M151 [.box b172 (Zr.zc GEntry) 44, .row v151 38 7, .box b55 cs141 44, .row v145 3 1, .box b36 cs38 48, .box b9 cs28 48, .box b7 cx3 38, .box b5 cs143 48] w171 := hS
 have zb172 : rep M151 (Zr.zc GEntry) (Zr.zd : GEntry) := Zr.zr
 have hw174 : ((sl cs143 (0 + 0 + Int.toNat x3.id * 6) 6) : List Value).length = 6 := Rep.len ha170
 have hl174 : ((Zr.zc GEntry)).length = 6 := Rep.len zb172
 obtain ⟨d175, hd174, hz⟩ := bind_ok hz
 have hb174 : rep M151 (pt (Zr.zc GEntry) (0) (sl cs143 (0 + 0 + Int.toNat x3.id * 6) 6)) d175 := rep_eq (rep_whole (k := 6) (by rw [pt_length (by omega)]; exact hl174) (rep_leaf rfl ha170 (by omega))) hd174
 generalize hg174 : (pt (Zr.zc GEntry) (0) (sl cs143 (0 + 0 + Int.toNat x3.id * 6) 6)) = cs174 at hb174
 refine WL_c (O_st (j := 0) (v := .agg (sl cs143 (0 + 0 + Int.toNat x3.id * 6) 6).toArray) (ws := (sl cs143 (0 + 0 + Int.toNat x3.id * 6) 6)) hS rfl (by kernel_rfl) rfl rfl rfl hw174 (Rep.one ha170) (by omega) ?_)
 rw [hg174]
 clear hg174
 intro w173 hS
 replace hS : St w noX M151 [.box b172 cs174 44, .row v151 38 7, .box b55 cs141 44, .row v145 3 1, .box b36 cs38 48, .box b9 cs28 48, .box b7 cx3 38, .box b5 cs143 48] w173 := hS
 refine WL_nil (nm_then ?_)
 refine W_seqJ (fun T' w' => ∃ M177 c179, Mm.ext w.heap.size noX M151 M177 ∧ St w noX M177 [.box b172 cs174 44, .row v151 38 7, .box b55 cs141 44, .row v145 3 1, .box b36 cs38 48, .box b9 cs28 48, .box b7 cx3 38, .box b5 cs143 48] w' ∧ T' 1 = .int .i64 x2 ∧ T' 3 = .pointer (some ⟨b5, 0, none⟩) ∧ T' 5 = .pointer (some ⟨b7, 0, none⟩) ∧ T' 6 = .pointer (some ⟨b9, 0, none⟩) ∧ T' 17 = v151 ∧ T' 18 = .pointer (some ⟨b172, 0, none⟩) ∧ T' 171 = .bool c179 ∧ takeFrame_j7 x2 x3 d144 d149 d175 c179 = some r) ?_ ?_
 have hF191 := Mm.ext.refl w.heap.size noX M151
 refine W_reg <|WL_y (Y_fa fa44_0 rfl) <|WL_y (Y_ld1 (.int .i64 d175.state) ts3 rfl (hS.bvB 0 rfl) (GEntry.p0 (rep_root (k := 6) rfl hb174))) <|WL_y (Y_eql rfl rfl) <|WL_y (Y_move (.bool (d175.state == 3)) rfl) ?_
 rcases ic hz with ⟨hc192, hz⟩ | ⟨hc192, hz⟩ <;> rw [hc192]
 refine WL_gy rfl rfl (Y_fa fa44_1 rfl) ?_
 obtain ⟨v193, ev193, hv193⟩ := (GEntry.p1 (rep_root (k := 6) rfl hb174))
 refine WL_gy rfl rfl (Y_ld1 v193 ts22 rfl (hS.bvB 0 rfl) ev193) <|WL_gy rfl rfl (Y_move (.int .i64 r33) hT140_10) ?_
 obtain ⟨r196, hr195, hz⟩ := bind_ok hz
 replace hr195 := Option.some.inj hr195
 refine WL_g rfl rfl (O_val (vs := [v193, .int .i64 r33]) (v := .bool r196) cb56 (args2 rfl rfl) hS (hr195 ▸ (c_touchesShard hS.agree hv193)) ?_)
 intro w194 hS
 refine WL_y (Y_pick_t (.bool r196) rfl rfl) ?_
 refine WL_nil (nm_then ?_)
 exact ⟨M151, r196, hF191, hS, hT140_1, hT140_3, hT140_5, hT140_6, rfl, rfl, rfl, hz⟩
 refine WL_d 5 rfl ?_
 refine WL_nil (nm_then ?_)
 exact ⟨M151, false, hF191, hS, hT140_1, hT140_3, hT140_5, hT140_6, rfl, rfl, rfl, hz⟩
 rintro T178 w176 ⟨M177, c179, hx180, hS, hT178_1, hT178_3, hT178_5, hT178_6, hT178_17, hT178_18, hT178_171, hz⟩
 replace hcx3 := Rep.mono hx180.1 hcx3
 replace hb28 := Rep.mono hx180.1 hb28
 replace hb38 := Rep.mono hx180.1 hb38
 replace hb141 := Rep.mono hx180.1 hb141
 replace hb143 := Rep.mono hx180.1 hb143
 replace hv151 := repL.mono hx180.1 hv151
 replace hb174 := Rep.mono hx180.1 hb174
 replace hE := Mm.ext.trans hE hx180
 replace hF165 := Mm.ext.trans hF165 hx180
 rw [takeFrame_j7] at hz
 refine W_cond hT178_171 (fun hc181 => ?_) (fun hc181 => ?_)
 replace hz := bif_ok_t hz hc181
 refine W_reg <|WL_y (Y_move (v151) hT178_17) <|WL_y (Y_move (.int .i64 x2) hT178_1) <|WL_y (Y_fa fa38_2 hT178_5) <|WL_y (Y_ld1 (.int .i64 x3.id) ts3 rfl (hS.bvB 6 rfl) (GFrame.p2 (rep_root (k := 7) rfl hcx3))) <|WL_y (Y_fa fa44_4 hT178_18) ?_
 obtain ⟨v182, ev182, hv182⟩ := (GEntry.p4 (rep_root (k := 6) rfl hb174))
 refine WL_y (Y_ld1 v182 ts27 rfl (hS.bvB 0 rfl) ev182) <|WL_y (Y_fa fa44_5 hT178_18) ?_
 obtain ⟨v183, ev183, hv183⟩ := (GEntry.p5 (rep_root (k := 6) rfl hb174))
 refine WL_y (Y_ld1 v183 ts27 rfl (hS.bvB 0 rfl) ev183) ?_
 have k184_0 := GFrame.w0 (Zr.zr : rep M177 (Zr.zc GFrame) (Zr.zd : GFrame)) (show rep M177 [Value.int .i64 5] (5 : Int) from rfl)
 have k184_1 := GFrame.w1 k184_0 (show rep M177 [Value.int .i64 x2] (x2 : Int) from rfl)
 have k184_2 := GFrame.w2 k184_1 (show rep M177 [Value.int .i64 x3.id] (x3.id : Int) from rfl)
 have k184_3 := GFrame.w5 k184_2 (repL_rep hv182)
 have k184_4 := GFrame.w6 k184_3 (repL_rep hv183)
 obtain ⟨d185, hd184, hz⟩ := bind_ok hz
 obtain ⟨cs184, hf184, ha184⟩ : ∃ cs, fillZ (([(0, 1), (1, 1), (2, 1), (3, 1), (4, 1), (5, 1), (6, 1)] : List (Nat × Nat))[·]?) (Zr.zc GFrame) [(0, .int .i64 5), (1, .int .i64 x2), (2, .int .i64 x3.id), (5, v182), (6, v183)] = some cs ∧ rep M177 cs d185 := ⟨_, (fz_cons (Zr.zr : rep M177 (Zr.zc GFrame) (Zr.zd : GFrame)) rfl rfl (Rep.len (show rep M177 [Value.int .i64 5] (5 : Int) from rfl)) (by decide) (fz_cons k184_0 rfl rfl (Rep.len (show rep M177 [Value.int .i64 x2] (x2 : Int) from rfl)) (by decide) (fz_cons k184_1 rfl rfl (Rep.len (show rep M177 [Value.int .i64 x3.id] (x3.id : Int) from rfl)) (by decide) (fz_cons k184_2 rfl (repL_cells hv182) (Rep.len (repL_rep hv182)) (by decide) (fz_cons k184_3 rfl (repL_cells hv183) (Rep.len (repL_rep hv183)) (by decide) fz_nil))))), rep_eq (x := ({ kind := 5, node := x2, id := x3.id, ops := Zr.zd, deps := Zr.zd, at_ := d175.at_, vals := d175.values } : GFrame)) k184_4 hd184⟩
 refine WL_y (Y_build [(0, .int .i64 5), (1, .int .i64 x2), (2, .int .i64 x3.id), (5, v182), (6, v183)] tb38 (bpc rfl (bpc rfl (bpc rfl (bpc rfl (bpc rfl bp0))))) hf184) ?_
 refine WL_c (O_bslice (α := GFrame) (l := ([d185] : List GFrame)) [.agg cs184.toArray] tl25 (bpc rfl bp0) rfl rfl (by decide) (by decide) (by decide) hS (brc ha184 br0) ?_)
 intro v187 M187 w186 hx187 hv187 hS
 replace hcx3 := Rep.mono hx187.1 hcx3
 replace hb28 := Rep.mono hx187.1 hb28
 replace hb38 := Rep.mono hx187.1 hb38
 replace hb141 := Rep.mono hx187.1 hb141
 replace hb143 := Rep.mono hx187.1 hb143
 replace hv151 := repL.mono hx187.1 hv151
 replace hb174 := Rep.mono hx187.1 hb174
 replace hv182 := repL.mono hx187.1 hv182
 replace hv183 := repL.mono hx187.1 hv183
 replace ha184 := Rep.mono hx187.1 ha184
 replace hE := Mm.ext.trans hE hx187
 replace hF165 := Mm.ext.trans hF165 hx187
 obtain ⟨l190, hr189, hz⟩ := bind_ok hz
 obtain ⟨hy189, hs189⟩ := app_some hr189
 refine WL_c (O_app (α := GFrame) (j := 1) tp25 hS rfl rfl rfl hv151 hv187 hy189 ?_)
 intro v189 M189 w188 hx189 hv189 hS
 rw [← hs189] at hv189
 clear hr189 hs189
 replace hcx3 := Rep.mono hx189.1 hcx3
 replace hb28 := Rep.mono hx189.1 hb28
 replace hb38 := Rep.mono hx189.1 hb38
 replace hb141 := Rep.mono hx189.1 hb141
 replace hb143 := Rep.mono hx189.1 hb143
 replace hv151 := repL.mono hx189.1 hv151
 replace hb174 := Rep.mono hx189.1 hb174
 replace hv182 := repL.mono hx189.1 hv182
 replace hv183 := repL.mono hx189.1 hv183
 replace ha184 := Rep.mono hx189.1 ha184
 replace hv187 := repL.mono hx189.1 hv187
 replace hE := Mm.ext.trans hE hx189
 replace hF165 := Mm.ext.trans hF165 hx189
 replace hS : St w noX M189 [.box b172 cs174 44, .row v189 38 7, .box b55 cs141 44, .row v145 3 1, .box b36 cs38 48, .box b9 cs28 48, .box b7 cx3 38, .box b5 cs143 48] w188 := hS
 refine WL_y (Y_assign (v189) rfl) ?_
 refine WL_nil (nm_then ?_)
 exact ⟨M189, v189, l190, hF165, (St.dropB hS hb172), hv189, hT178_3, hT178_6, rfl, hz⟩
 replace hz := bif_ok_f hz hc181
 refine W_skip (nm_then ?_)
 exact ⟨M177, v151, ([d149] : List GFrame), hF165, (St.dropB hS hb172), hv151, hT178_3, hT178_6, hT178_17, hz⟩
 rintro T155 w153 ⟨M154, v157, l156, hx158, hS, hv157, hT155_3, hT155_6, hT155_17, hz⟩
 replace hcx3 := Rep.mono hx158.1 hcx3
 replace hb28 := Rep.mono hx158.1 hb28
 replace hb38 := Rep.mono hx158.1 hb38
 replace hb141 := Rep.mono hx158.1 hb141
 replace hb143 := Rep.mono hx158.1 hb143
 replace hE := Mm.ext.trans hE hx158
 rw [takeFrame_j6] at hz
 refine W_seq <|W_reg ?_
 have ha159 := (rep_root (k := 201) rfl hb143)
 have hp160 : sl (sl cs143 (0) 201) 192 1 = [v145] := (sl_sub (by decide)).trans hp146
 refine WL_y (Y_ldn ta48 hT155_3 (hS.bvB 6 rfl) (Rep.len ha159)) <|WL_y (Y_move (v157) hT155_17) ?_
 have hw162 : ((sl cs143 (0) 201) : List Value).length = 201 := Rep.len ha159
 have hl162 : (cs28).length = 201 := Rep.len hb28
 obtain ⟨d163, hd162, hz⟩ := bind_ok hz
 have hb162 : rep M154 (pt cs28 (0) (sl cs143 (0) 201)) d163 := rep_eq (rep_whole (k := 201) (by rw [pt_length (by omega)]; exact hl162) (rep_leaf rfl ha159 (by omega))) hd162
 have hp164 : sl (pt cs28 (0) (sl cs143 (0) 201)) (0 + 192) 1 = [v145] := (sl_pt_sub (by omega) (by omega)).trans hp160
 generalize hg162 : (pt cs28 (0) (sl cs143 (0) 201)) = cs162 at hb162 hp164
 refine WL_c (O_st (j := 4) (v := .agg (sl cs143 (0) 201).toArray) (ws := (sl cs143 (0) 201)) hS rfl (by kernel_rfl) hT155_6 rfl rfl hw162 (Rep.one ha159) (by omega) ?_)
 rw [hg162]
 clear hg162
 intro w161 hS
 replace hS : St w noX M154 [.row v157 38 7, .box b55 cs141 44, .row v145 3 1, .box b36 cs38 48, .box b9 cs162 48, .box b7 cx3 38, .box b5 cs143 48] w161 := hS
 refine WL_d 2 rfl ?_
 refine WL_nil (nm_then ?_)
 cases hz
 exact W_ret (R_ctt (j := 4) rfl hT155_6 rfl rfl (by rw [Rep.len hb162]; exact ta48) hS rfl (Gives.mk (St.dropB (St.dropB (St.dropB (St.dropB (St.drop (St.dropB (St.drop hS) hb55)) hb36) hb9) hb7) hb5) hE ⟨_, _, rfl, hb162, hv157⟩))
def lawTakes_j1 (c20 : Bool) : Option Bool :=
 some c20
def lawTakesD (fu : Nat) : Option Bool :=
 (some ({ entries := Zr.zd, order := Zr.zd, values := Zr.zd } : GNode)).bind fun d2 =>
 (some ({ kind := 2, key := 1, n := 9 } : GOp)).bind fun d4 =>
 (some ({ kind := 3, node := 3, id := 4, ops := ([d4] : List GOp), deps := Zr.zd, at_ := Zr.zd, vals := Zr.zd } : GFrame)).bind fun d8 =>
 (nodeTakeD fu d2 3 d8).bind fun r11 =>
 (some r11.1).bind fun d16 =>
 (bif r11.2.2 == 0 then
 (bif (r11.2.1.length : Int) == 2 then
 (idxV d16.values 1).bind fun x26 =>
 (bif x26 == 9 then
 lawTakes_j1 ((d16.order.length : Int) == 1)
 else
 lawTakes_j1 false)
 else
 lawTakes_j1 false)
 else
 lawTakes_j1 false)
set_option maxRecDepth 100000 in
set_option maxHeartbeats 4000000 in
theorem lawTakes_ok {M : Mm} {w : World} {fu : Nat} {r : Bool} (hA : Agree M w)  (hz : lawTakesD fu = some r) :
    Calls Try.prog 24 #[] w (GivesV w (.bool r)) := by
 refine calls_W Try.func24 rfl 32 rfl rfl (by kernel_rfl) fun T hT => ?_
 clear hT
 have hE := Mm.ext.refl w.heap.size noX M
 have hS : St w noX M [] w := St.start hA
 rw [lawTakesD] at hz
 refine W_seq <|W_reg <|WL_y (Y_assign (.bool false) rfl) ?_
 refine WL_nil (nm_then ?_)
 refine W_seq <|W_reg ?_
 obtain ⟨d2, hd1, hz⟩ := bind_ok hz
 obtain ⟨cs1, hf1, ha1⟩ : ∃ cs, fillZ (([(0, 192), (192, 1), (193, 8)] : List (Nat × Nat))[·]?) (Zr.zc GNode) [] = some cs ∧ rep M cs d2 := ⟨_, fz_nil, rep_eq (x := ({ entries := Zr.zd, order := Zr.zd, values := Zr.zd } : GNode)) (Zr.zr : rep M (Zr.zc GNode) (Zr.zd : GNode)) hd1⟩
 refine WL_y (Y_build [] tb48 bp0 hf1) ?_
 have k3_0 := GOp.w0 (Zr.zr : rep M (Zr.zc GOp) (Zr.zd : GOp)) (show rep M [Value.int .i64 2] (2 : Int) from rfl)
 have k3_1 := GOp.w1 k3_0 (show rep M [Value.int .i64 1] (1 : Int) from rfl)
 have k3_2 := GOp.w2 k3_1 (show rep M [Value.int .i64 9] (9 : Int) from rfl)
 obtain ⟨d4, hd3, hz⟩ := bind_ok hz
 obtain ⟨cs3, hf3, ha3⟩ : ∃ cs, fillZ (([(0, 1), (1, 1), (2, 1)] : List (Nat × Nat))[·]?) (Zr.zc GOp) [(0, .int .i64 2), (1, .int .i64 1), (2, .int .i64 9)] = some cs ∧ rep M cs d4 := ⟨_, (fz_cons (Zr.zr : rep M (Zr.zc GOp) (Zr.zd : GOp)) rfl rfl (Rep.len (show rep M [Value.int .i64 2] (2 : Int) from rfl)) (by decide) (fz_cons k3_0 rfl rfl (Rep.len (show rep M [Value.int .i64 1] (1 : Int) from rfl)) (by decide) (fz_cons k3_1 rfl rfl (Rep.len (show rep M [Value.int .i64 9] (9 : Int) from rfl)) (by decide) fz_nil))), rep_eq (x := ({ kind := 2, key := 1, n := 9 } : GOp)) k3_2 hd3⟩
 refine WL_y (Y_build [(0, .int .i64 2), (1, .int .i64 1), (2, .int .i64 9)] tb78 (bpc rfl (bpc rfl (bpc rfl bp0))) hf3) ?_
 refine WL_c (O_bslice (α := GOp) (l := ([d4] : List GOp)) [.agg cs3.toArray] tl22 (bpc rfl bp0) rfl rfl (by decide) (by decide) (by decide) hS (brc ha3 br0) ?_)
 intro v6 M6 w5 hx6 hv6 hS
 replace ha1 := Rep.mono hx6.1 ha1
 replace ha3 := Rep.mono hx6.1 ha3
 replace hE := Mm.ext.trans hE hx6
 have k7_0 := GFrame.w0 (Zr.zr : rep M6 (Zr.zc GFrame) (Zr.zd : GFrame)) (show rep M6 [Value.int .i64 3] (3 : Int) from rfl)
 have k7_1 := GFrame.w1 k7_0 (show rep M6 [Value.int .i64 3] (3 : Int) from rfl)
 have k7_2 := GFrame.w2 k7_1 (show rep M6 [Value.int .i64 4] (4 : Int) from rfl)
 have k7_3 := GFrame.w3 k7_2 (repL_rep hv6)
 obtain ⟨d8, hd7, hz⟩ := bind_ok hz
 obtain ⟨cs7, hf7, ha7⟩ : ∃ cs, fillZ (([(0, 1), (1, 1), (2, 1), (3, 1), (4, 1), (5, 1), (6, 1)] : List (Nat × Nat))[·]?) (Zr.zc GFrame) [(0, .int .i64 3), (1, .int .i64 3), (2, .int .i64 4), (3, v6)] = some cs ∧ rep M6 cs d8 := ⟨_, (fz_cons (Zr.zr : rep M6 (Zr.zc GFrame) (Zr.zd : GFrame)) rfl rfl (Rep.len (show rep M6 [Value.int .i64 3] (3 : Int) from rfl)) (by decide) (fz_cons k7_0 rfl rfl (Rep.len (show rep M6 [Value.int .i64 3] (3 : Int) from rfl)) (by decide) (fz_cons k7_1 rfl rfl (Rep.len (show rep M6 [Value.int .i64 4] (4 : Int) from rfl)) (by decide) (fz_cons k7_2 rfl (repL_cells hv6) (Rep.len (repL_rep hv6)) (by decide) fz_nil)))), rep_eq (x := ({ kind := 3, node := 3, id := 4, ops := ([d4] : List GOp), deps := Zr.zd, at_ := Zr.zd, vals := Zr.zd } : GFrame)) k7_3 hd7⟩
 refine WL_y (Y_build [(0, .int .i64 3), (1, .int .i64 3), (2, .int .i64 4), (3, v6)] tb38 (bpc rfl (bpc rfl (bpc rfl (bpc rfl bp0)))) hf7) ?_
 obtain ⟨r11, hr10, hz⟩ := bind_ok hz
 refine WL_c (O_mem (vs := [.agg cs1.toArray, .int .i64 3, .agg cs7.toArray]) (rv := (fun M' u => ∃ c0 v1, u = .tuple #[.agg c0.toArray, v1, .int .i64 r11.2.2] ∧ rep M' c0 r11.1 ∧ repL M' v1 r11.2.1)) cb17 (args3 rfl rfl rfl) hS (nodeTake_ok hS.agree ha1 ha7 hr10) ?_)
 intro u10 M10 w9 hx10 hu10 hS
 obtain ⟨c10_0, v10_1, hq10, f10_0, f10_1⟩ := hu10
 subst hq10
 replace ha1 := Rep.mono hx10.1 ha1
 replace ha3 := Rep.mono hx10.1 ha3
 replace hv6 := repL.mono hx10.1 hv6
 replace ha7 := Rep.mono hx10.1 ha7
 replace hE := Mm.ext.trans hE hx10
 refine WL_y (Y_move (.tuple #[.agg c10_0.toArray, v10_1, .int .i64 r11.2.2]) rfl) <|WL_y (Y_extract (v := .agg c10_0.toArray) rfl rfl) <|WL_y (Y_extract (v := v10_1) rfl rfl) <|WL_y (Y_extract (v := .int .i64 r11.2.2) rfl rfl) ?_
 refine WL_c (O_alloc tz48 hS ?_)
 intro b13 w12 hb13 hS
 replace hS : St w noX M10 [.box b13 (Zr.zc GNode) 48] w12 := hS
 have zb13 : rep M10 (Zr.zc GNode) (Zr.zd : GNode) := Zr.zr
 have hw15 : (c10_0 : List Value).length = 201 := Rep.len f10_0
 have hl15 : ((Zr.zc GNode)).length = 201 := Rep.len zb13
 obtain ⟨d16, hd15, hz⟩ := bind_ok hz
 have hb15 : rep M10 (pt (Zr.zc GNode) (0) c10_0) d16 := rep_eq (rep_whole (k := 201) (by rw [pt_length (by omega)]; exact hl15) (rep_leaf rfl f10_0 (by omega))) hd15
 generalize hg15 : (pt (Zr.zc GNode) (0) c10_0) = cs15 at hb15
 refine WL_c (O_st (j := 0) (v := .agg c10_0.toArray) (ws := c10_0) hS rfl (by kernel_rfl) rfl rfl rfl hw15 (Rep.one f10_0) (by omega) ?_)
 rw [hg15]
 clear hg15
 intro w14 hS
 replace hS : St w noX M10 [.box b13 cs15 48] w14 := hS
 refine WL_d 2 rfl ?_
 refine WL_nil (nm_then ?_)
 refine W_seqJ (fun T' w' => ∃ M18 c20, Mm.ext w.heap.size noX M10 M18 ∧ St w noX M18 [.box b13 cs15 48] w' ∧ T' 0 = .bool c20 ∧ lawTakes_j1 c20 = some r) ?_ ?_
 have hF22 := Mm.ext.refl w.heap.size noX M10
 refine W_reg <|WL_y (Y_move (.int .i64 r11.2.2) rfl) <|WL_y (Y_eql rfl rfl) <|WL_y (Y_move (.bool (r11.2.2 == 0)) rfl) ?_
 rcases ic hz with ⟨hc23, hz⟩ | ⟨hc23, hz⟩ <;> rw [hc23]
 refine WL_gy rfl rfl (Y_move (v10_1) rfl) ?_
 obtain ⟨a24, c24, hv24, _⟩ := repL_shape f10_1
 refine WL_gy rfl rfl (Y_lenL Try.underlying25 (tr2 hv24 rfl)) <|WL_gy rfl rfl (Y_eql rfl rfl) <|WL_d 2 rfl ?_
 rcases ic hz with ⟨hc25, hz⟩ | ⟨hc25, hz⟩ <;> rw [hc25]
 refine WL_gy rfl rfl (Y_fa fa48_2 rfl) <|WL_gy rfl rfl (Y_ixA ia46 rfl rfl (by decide) (by decide)) ?_
 obtain ⟨x26, hx27, hz⟩ := bind_ok hz
 refine WL_gy rfl rfl (Y_ld1 (.int .i64 x26) ts3 rfl (hS.bvB 0 rfl) (vp (k := 1) rfl rfl (GNode.p2 (rep_root (k := 201) rfl hb15)) hx27)) <|WL_gy rfl rfl (Y_eql rfl rfl) <|WL_d 2 rfl ?_
 rcases ic hz with ⟨hc28, hz⟩ | ⟨hc28, hz⟩ <;> rw [hc28]
 refine WL_gy rfl rfl (Y_fa fa48_1 rfl) ?_
 obtain ⟨v29, ev29, hv29⟩ := (GNode.p1 (rep_root (k := 201) rfl hb15))
 refine WL_gy rfl rfl (Y_ld1 v29 ts27 rfl (hS.bvB 0 rfl) ev29) ?_
 obtain ⟨a30, c30, hv30, _⟩ := repL_shape hv29
 refine WL_gy rfl rfl (Y_lenL Try.underlying27 (tr2 hv30 rfl)) <|WL_gy rfl rfl (Y_eql rfl rfl) <|WL_d 2 rfl ?_
 refine WL_nil (nm_then ?_)
 exact ⟨M10, ((d16.order.length : Int) == 1), hF22, hS, rfl, hz⟩
 refine WL_d 6 rfl ?_
 refine WL_nil (nm_then ?_)
 exact ⟨M10, false, hF22, hS, rfl, hz⟩
 refine WL_d 12 rfl ?_
 refine WL_nil (nm_then ?_)
 exact ⟨M10, false, hF22, hS, rfl, hz⟩
 refine WL_d 17 rfl ?_
 refine WL_nil (nm_then ?_)
 exact ⟨M10, false, hF22, hS, rfl, hz⟩
 rintro T19 w17 ⟨M18, c20, hx21, hS, hT19_0, hz⟩
 replace hb15 := Rep.mono hx21.1 hb15
 replace hE := Mm.ext.trans hE hx21
 rw [lawTakes_j1] at hz
 cases hz
 exact W_ret (R_t1 rfl hT19_0 ⟨rfl, (St.dropB hS hb13).kept⟩)
def nodeTakes_j2 (c39 : Bool) : Option Bool :=
 some c39
def nodeTakes_j1 (fu : Nat) (x1 : GNode) (x2 : Int) (x3 : GFrame) (d12 : GNode) (d14 : GFrame) : Option Bool :=
 (nodeTakeD fu d12 x2 d14).bind fun r20 =>
 (some r20.1).bind fun d25 =>
 (takeFrameD fu x1 x2 x3).bind fun r30 =>
 (some r30.1).bind fun d35 =>
 (sameNodeD fu d25 d35).bind fun r49 =>
 (bif r49 then
 (sameFramesD fu r20.2.1 r30.2.1).bind fun r54 =>
 (bif r54 then
 (bif r20.2.2 == r30.2.2 then
 (nodeGoodD fu d12).bind fun r62 =>
 (isNodeD fu x1).bind fun r66 =>
 (bif r62 == r66 then
 (sameNodeD fu d12 x1).bind fun r73 =>
 (bif r73 then
 (sameFrameD fu d14 x3).bind fun r80 =>
 (bif r80 then
 (lawTakesD fu).bind fun r85 =>
 nodeTakes_j2 r85
 else
 nodeTakes_j2 false)
 else
 nodeTakes_j2 false)
 else
 nodeTakes_j2 false)
 else
 nodeTakes_j2 false)
 else
 nodeTakes_j2 false)
 else
 nodeTakes_j2 false)
def nodeTakesD (fu : Nat) (x1 : GNode) (x2 : Int) (x3 : GFrame) : Option Bool :=
 (copyNodeD fu x1).bind fun r95 =>
 (lawFrameD fu x3).bind fun r99 =>
 (some r95).bind fun d106 =>
 (some r99).bind fun d110 =>
 nodeTakes_j1 fu x1 x2 x3 d106 d110
set_option maxRecDepth 100000 in
set_option maxHeartbeats 4000000 in
theorem nodeTakes_ok {M : Mm} {w : World} {cx1 : List Value} {cx3 : List Value} {x1 : GNode} {x2 : Int} {x3 : GFrame} {fu : Nat} {r : Bool} (hA : Agree M w) (hcx1 : rep M cx1 x1) (hcx3 : rep M cx3 x3) (hz : nodeTakesD fu x1 x2 x3 = some r) :
    Calls Try.prog 4 #[.agg cx1.toArray, .int .i64 x2, .agg cx3.toArray] w (GivesV w (.bool r)) := by
 refine calls_W Try.func4 rfl 68 rfl rfl (by kernel_rfl) fun T hT => ?_
 have hT_0 : T 0 = .agg cx1.toArray := hT 0
 have hT_1 : T 1 = .int .i64 x2 := hT 1
 have hT_2 : T 2 = .agg cx3.toArray := hT 2
 clear hT
 have hE := Mm.ext.refl w.heap.size noX M
 have hS : St w noX M [] w := St.start hA
 rw [nodeTakesD] at hz
 refine W_seq <|W_reg ?_
 refine WL_c (O_box (v := .agg cx1.toArray) (cs := cx1) hT_0 rfl hS ?_)
 intro b5 w4 hb5 hS
 replace hS : St w noX M [.box b5 cx1 48] w4 := hS
 refine WL_c (O_box (v := .agg cx3.toArray) (cs := cx3) hT_2 rfl hS ?_)
 intro b7 w6 hb7 hS
 replace hS : St w noX M [.box b7 cx3 38, .box b5 cx1 48] w6 := hS
 refine WL_y (Y_assign (.bool false) rfl) ?_
 refine WL_nil (nm_then ?_)
 refine W_seqJ (fun T' w' => ∃ M9 b11 cs11 d12 b13 cs13 d14, Mm.ext w.heap.size noX M M9 ∧ St w noX M9 [.box b13 cs13 38, .box b11 cs11 48, .box b7 cx3 38, .box b5 cx1 48] w' ∧ rep M9 cs11 d12 ∧ w.heap.size ≤ b11 ∧ rep M9 cs13 d14 ∧ w.heap.size ≤ b13 ∧ T' 7 = .pointer (some ⟨b11, 0, none⟩) ∧ T' 8 = .pointer (some ⟨b13, 0, none⟩) ∧ T' 1 = .int .i64 x2 ∧ T' 3 = .pointer (some ⟨b5, 0, none⟩) ∧ T' 5 = .pointer (some ⟨b7, 0, none⟩) ∧ nodeTakes_j1 fu x1 x2 x3 d12 d14 = some r) ?_ ?_
 have hF87 := Mm.ext.refl w.heap.size noX M
 refine W_drawB (Rd M [.box b7 cx3 38, .box b5 cx1 48]) (inL []) mixed hS fun w88 hS => ?_
 have hG89 := Mm.ext.refl w.heap.size noX M
 have hR90 : Rd M [.box b7 cx3 38, .box b5 cx1 48] w88 := Rd.of hS hG89 (by simp)
 have ha91 := (rep_root (k := 201) rfl hcx1)
 refine WB_ld (i := 0) rfl (by kernel_rfl) rfl (inL_lt rfl) (by kernel_rfl) (by kernel_rfl) (Y_ldn ta48 rfl (bvR 1 rfl) (Rep.len ha91)) hR90 ?_
 have ha92 := (rep_root (k := 7) rfl hcx3)
 refine WB_ld (i := 2) rfl (by kernel_rfl) rfl (inL_lt rfl) (by kernel_rfl) (by kernel_rfl) (Y_ldn ta38 rfl (bvR 0 rfl) (Rep.len ha92)) hR90 ?_
 obtain ⟨r95, hr94, hz⟩ := bind_ok hz
 obtain ⟨r99, hr98, hz⟩ := bind_ok hz
 obtain ⟨d106, hd105, hz⟩ := bind_ok hz
 obtain ⟨d110, hd109, hz⟩ := bind_ok hz
 refine WB_three (i := 1) (j := 4) (k := 5) (by kernel_rfl) rfl rfl rfl (O_lend (vs := [.agg (sl cx1 (0) 201).toArray]) (L := []) (R := [.box b7 cx3 38, .box b5 cx1 48]) (rv := (fun M' u L' => ∃ c0 uR, u = .agg c0.toArray ∧ L' = [.row uR 3 1] ∧ rep M' c0 r95 ∧ sl c0 192 1 = [uR])) cb15 (args1 rfl) hS (hS.sel [0, 1] (by decide) rfl) (fun hS => copyNode_ok hS.agree ha91 hr94) ?_) (O_alloc tz48 hS ?_) (O_alloc tz38 hS ?_)
 rintro u94 M94 w93 L94 hx94 ⟨c0_94, uR_94, rfl, hL94, f94_0, f94_1⟩ hS
 replace hS := hS _ hL94
 replace hcx1 := Rep.mono hx94.1 hcx1
 replace hcx3 := Rep.mono hx94.1 hcx3
 replace ha91 := Rep.mono hx94.1 ha91
 replace ha92 := Rep.mono hx94.1 ha92
 replace hE := Mm.ext.trans hE hx94
 replace hF87 := Mm.ext.trans hF87 hx94
 replace hG89 := Mm.ext.trans hG89 hx94
 replace hS : St w noX M94 [.row uR_94 3 1, .box b7 cx3 38, .box b5 cx1 48] w93 := hS
 have hR111 : Rd M [.box b7 cx3 38, .box b5 cx1 48] w93 := Rd.of hS hG89 (by simp)
 refine ⟨fun _ => hR111, ?_⟩
 refine WB_three (i := 3) (j := 4) (k := 5) (by kernel_rfl) rfl rfl rfl (O_mem (vs := [.agg (sl cx3 (0) 7).toArray]) (rv := (fun M' u => ∃ cs, u = .agg cs.toArray ∧ rep M' cs r99)) cb16 (args1 rfl) hS (lawFrame_ok hS.agree ha92 hr98) ?_) (O_alloc tz48 hS ?_) (O_alloc tz38 hS ?_)
 intro u98 M98 w97 hx98 hu98 hS
 obtain ⟨c98, hq98, f98⟩ := hu98
 subst hq98
 replace hcx1 := Rep.mono hx98.1 hcx1
 replace hcx3 := Rep.mono hx98.1 hcx3
 replace ha91 := Rep.mono hx98.1 ha91
 replace ha92 := Rep.mono hx98.1 ha92
 replace f94_0 := Rep.mono hx98.1 f94_0
 replace hE := Mm.ext.trans hE hx98
 replace hF87 := Mm.ext.trans hF87 hx98
 replace hG89 := Mm.ext.trans hG89 hx98
 have hR112 : Rd M [.box b7 cx3 38, .box b5 cx1 48] w97 := Rd.of hS hG89 (by simp)
 refine ⟨fun _ => hR112, ?_⟩
 refine WB_two (i := 4) (j := 5) (by kernel_rfl) rfl rfl (O_alloc tz48 hS ?_) (O_alloc tz38 hS ?_)
 intro b101 w100 hb101 hS
 replace hS : St w noX M98 [.box b101 (Zr.zc GNode) 48, .row uR_94 3 1, .box b7 cx3 38, .box b5 cx1 48] w100 := hS
 have zb101 : rep M98 (Zr.zc GNode) (Zr.zd : GNode) := Zr.zr
 have hR113 : Rd M [.box b7 cx3 38, .box b5 cx1 48] w100 := Rd.of hS hG89 (by simp)
 refine ⟨fun _ => hR113, ?_⟩
 refine WB_one (i := 5) (by kernel_rfl) rfl (O_alloc tz38 hS ?_)
 intro b103 w102 hb103 hS
 replace hS : St w noX M98 [.box b103 (Zr.zc GFrame) 38, .box b101 (Zr.zc GNode) 48, .row uR_94 3 1, .box b7 cx3 38, .box b5 cx1 48] w102 := hS
 have zb103 : rep M98 (Zr.zc GFrame) (Zr.zd : GFrame) := Zr.zr
 have hR114 : Rd M [.box b7 cx3 38, .box b5 cx1 48] w102 := Rd.of hS hG89 (by simp)
 refine ⟨fun _ => hR114, ?_⟩
 have hw105 : (c0_94 : List Value).length = 201 := Rep.len f94_0
 have hl105 : ((Zr.zc GNode)).length = 201 := Rep.len zb101
 have hb105 : rep M98 (pt (Zr.zc GNode) (0) c0_94) d106 := rep_eq (rep_whole (k := 201) (by rw [pt_length (by omega)]; exact hl105) (rep_leaf rfl f94_0 (by omega))) hd105
 have hp107 : sl (pt (Zr.zc GNode) (0) c0_94) (0 + 192) 1 = [uR_94] := (sl_pt_sub (by omega) (by omega)).trans f94_1
 generalize hg105 : (pt (Zr.zc GNode) (0) c0_94) = cs105 at hb105 hp107
 refine WB_one (i := 6) (by kernel_rfl) rfl (O_st (j := 1) (v := .agg c0_94.toArray) (ws := c0_94) hS rfl (by kernel_rfl) rfl rfl rfl hw105 (Rep.one f94_0) (by omega) ?_)
 rw [hg105]
 clear hg105
 intro w104 hS
 replace hS : St w noX M98 [.box b103 (Zr.zc GFrame) 38, .box b101 cs105 48, .row uR_94 3 1, .box b7 cx3 38, .box b5 cx1 48] w104 := hS
 have hR115 : Rd M [.box b7 cx3 38, .box b5 cx1 48] w104 := Rd.of hS hG89 (by simp)
 refine ⟨fun _ => hR115, ?_⟩
 have hw109 : (c98 : List Value).length = 7 := Rep.len f98
 have hl109 : ((Zr.zc GFrame)).length = 7 := Rep.len zb103
 have hb109 : rep M98 (pt (Zr.zc GFrame) (0) c98) d110 := rep_eq (rep_whole (k := 7) (by rw [pt_length (by omega)]; exact hl109) (rep_leaf rfl f98 (by omega))) hd109
 generalize hg109 : (pt (Zr.zc GFrame) (0) c98) = cs109 at hb109
 refine WB_one (i := 7) (by kernel_rfl) rfl (O_st (j := 0) (v := .agg c98.toArray) (ws := c98) hS rfl (by kernel_rfl) rfl rfl rfl hw109 (Rep.one f98) (by omega) ?_)
 rw [hg109]
 clear hg109
 intro w108 hS
 replace hS : St w noX M98 [.box b103 cs109 38, .box b101 cs105 48, .row uR_94 3 1, .box b7 cx3 38, .box b5 cx1 48] w108 := hS
 have hR116 : Rd M [.box b7 cx3 38, .box b5 cx1 48] w108 := Rd.of hS hG89 (by simp)
 refine ⟨fun _ => hR116, ?_⟩
 refine WB_done (by kernel_rfl) (nm_then ?_)
 exact ⟨M98, b101, cs105, d106, b103, cs109, d110, hF87, (hS.sel (H' := [.box b103 cs109 38, .box b101 cs105 48, .box b7 cx3 38, .box b5 cx1 48]) [0, 1, 3, 4] (by decide) rfl), hb105, hb101, hb109, hb103, rfl, rfl, hT_1, rfl, rfl, hz⟩
 intro b103 w102 hb103 hS
 replace hS : St w noX M98 [.box b103 (Zr.zc GFrame) 38, .row uR_94 3 1, .box b7 cx3 38, .box b5 cx1 48] w102 := hS
 have zb103 : rep M98 (Zr.zc GFrame) (Zr.zd : GFrame) := Zr.zr
 have hR117 : Rd M [.box b7 cx3 38, .box b5 cx1 48] w102 := Rd.of hS hG89 (by simp)
 refine ⟨fun _ => hR117, ?_⟩
 refine WB_one (i := 4) (by kernel_rfl) rfl (O_alloc tz48 hS ?_)
 intro b101 w100 hb101 hS
 replace hS : St w noX M98 [.box b101 (Zr.zc GNode) 48, .box b103 (Zr.zc GFrame) 38, .row uR_94 3 1, .box b7 cx3 38, .box b5 cx1 48] w100 := hS
 have zb101 : rep M98 (Zr.zc GNode) (Zr.zd : GNode) := Zr.zr
 have hR118 : Rd M [.box b7 cx3 38, .box b5 cx1 48] w100 := Rd.of hS hG89 (by simp)
 refine ⟨fun _ => hR118, ?_⟩
 have hw105 : (c0_94 : List Value).length = 201 := Rep.len f94_0
 have hl105 : ((Zr.zc GNode)).length = 201 := Rep.len zb101
 have hb105 : rep M98 (pt (Zr.zc GNode) (0) c0_94) d106 := rep_eq (rep_whole (k := 201) (by rw [pt_length (by omega)]; exact hl105) (rep_leaf rfl f94_0 (by omega))) hd105
 have hp107 : sl (pt (Zr.zc GNode) (0) c0_94) (0 + 192) 1 = [uR_94] := (sl_pt_sub (by omega) (by omega)).trans f94_1
 generalize hg105 : (pt (Zr.zc GNode) (0) c0_94) = cs105 at hb105 hp107
 refine WB_one (i := 6) (by kernel_rfl) rfl (O_st (j := 0) (v := .agg c0_94.toArray) (ws := c0_94) hS rfl (by kernel_rfl) rfl rfl rfl hw105 (Rep.one f94_0) (by omega) ?_)
 rw [hg105]
 clear hg105
 intro w104 hS
 replace hS : St w noX M98 [.box b101 cs105 48, .box b103 (Zr.zc GFrame) 38, .row uR_94 3 1, .box b7 cx3 38, .box b5 cx1 48] w104 := hS
 have hR119 : Rd M [.box b7 cx3 38, .box b5 cx1 48] w104 := Rd.of hS hG89 (by simp)
 refine ⟨fun _ => hR119, ?_⟩
 have hw109 : (c98 : List Value).length = 7 := Rep.len f98
 have hl109 : ((Zr.zc GFrame)).length = 7 := Rep.len zb103
 have hb109 : rep M98 (pt (Zr.zc GFrame) (0) c98) d110 := rep_eq (rep_whole (k := 7) (by rw [pt_length (by omega)]; exact hl109) (rep_leaf rfl f98 (by omega))) hd109
 generalize hg109 : (pt (Zr.zc GFrame) (0) c98) = cs109 at hb109
 refine WB_one (i := 7) (by kernel_rfl) rfl (O_st (j := 1) (v := .agg c98.toArray) (ws := c98) hS rfl (by kernel_rfl) rfl rfl rfl hw109 (Rep.one f98) (by omega) ?_)
 rw [hg109]
 clear hg109
 intro w108 hS
 replace hS : St w noX M98 [.box b101 cs105 48, .box b103 cs109 38, .row uR_94 3 1, .box b7 cx3 38, .box b5 cx1 48] w108 := hS
 have hR120 : Rd M [.box b7 cx3 38, .box b5 cx1 48] w108 := Rd.of hS hG89 (by simp)
 refine ⟨fun _ => hR120, ?_⟩
 refine WB_done (by kernel_rfl) (nm_then ?_)
 exact ⟨M98, b101, cs105, d106, b103, cs109, d110, hF87, (hS.sel (H' := [.box b103 cs109 38, .box b101 cs105 48, .box b7 cx3 38, .box b5 cx1 48]) [1, 0, 3, 4] (by decide) rfl), hb105, hb101, hb109, hb103, rfl, rfl, hT_1, rfl, rfl, hz⟩
 intro b101 w100 hb101 hS
 replace hS : St w noX M94 [.box b101 (Zr.zc GNode) 48, .row uR_94 3 1, .box b7 cx3 38, .box b5 cx1 48] w100 := hS
 have zb101 : rep M94 (Zr.zc GNode) (Zr.zd : GNode) := Zr.zr
 have hR121 : Rd M [.box b7 cx3 38, .box b5 cx1 48] w100 := Rd.of hS hG89 (by simp)
 refine ⟨fun _ => hR121, ?_⟩
 refine WB_two (i := 3) (j := 5) (by kernel_rfl) rfl rfl (O_mem (vs := [.agg (sl cx3 (0) 7).toArray]) (rv := (fun M' u => ∃ cs, u = .agg cs.toArray ∧ rep M' cs r99)) cb16 (args1 rfl) hS (lawFrame_ok hS.agree ha92 hr98) ?_) (O_alloc tz38 hS ?_)
 intro u98 M98 w97 hx98 hu98 hS
 obtain ⟨c98, hq98, f98⟩ := hu98
 subst hq98
 replace hcx1 := Rep.mono hx98.1 hcx1
 replace hcx3 := Rep.mono hx98.1 hcx3
 replace ha91 := Rep.mono hx98.1 ha91
 replace ha92 := Rep.mono hx98.1 ha92
 replace f94_0 := Rep.mono hx98.1 f94_0
 replace zb101 := Rep.mono hx98.1 zb101
 replace hE := Mm.ext.trans hE hx98
 replace hF87 := Mm.ext.trans hF87 hx98
 replace hG89 := Mm.ext.trans hG89 hx98
 have hR122 : Rd M [.box b7 cx3 38, .box b5 cx1 48] w97 := Rd.of hS hG89 (by simp)
 refine ⟨fun _ => hR122, ?_⟩
 refine WB_one (i := 5) (by kernel_rfl) rfl (O_alloc tz38 hS ?_)
 intro b103 w102 hb103 hS
 replace hS : St w noX M98 [.box b103 (Zr.zc GFrame) 38, .box b101 (Zr.zc GNode) 48, .row uR_94 3 1, .box b7 cx3 38, .box b5 cx1 48] w102 := hS
 have zb103 : rep M98 (Zr.zc GFrame) (Zr.zd : GFrame) := Zr.zr
 have hR123 : Rd M [.box b7 cx3 38, .box b5 cx1 48] w102 := Rd.of hS hG89 (by simp)
 refine ⟨fun _ => hR123, ?_⟩
 have hw105 : (c0_94 : List Value).length = 201 := Rep.len f94_0
 have hl105 : ((Zr.zc GNode)).length = 201 := Rep.len zb101
 have hb105 : rep M98 (pt (Zr.zc GNode) (0) c0_94) d106 := rep_eq (rep_whole (k := 201) (by rw [pt_length (by omega)]; exact hl105) (rep_leaf rfl f94_0 (by omega))) hd105
 have hp107 : sl (pt (Zr.zc GNode) (0) c0_94) (0 + 192) 1 = [uR_94] := (sl_pt_sub (by omega) (by omega)).trans f94_1
 generalize hg105 : (pt (Zr.zc GNode) (0) c0_94) = cs105 at hb105 hp107
 refine WB_one (i := 6) (by kernel_rfl) rfl (O_st (j := 1) (v := .agg c0_94.toArray) (ws := c0_94) hS rfl (by kernel_rfl) rfl rfl rfl hw105 (Rep.one f94_0) (by omega) ?_)
 rw [hg105]
 clear hg105
 intro w104 hS
 replace hS : St w noX M98 [.box b103 (Zr.zc GFrame) 38, .box b101 cs105 48, .row uR_94 3 1, .box b7 cx3 38, .box b5 cx1 48] w104 := hS
 have hR124 : Rd M [.box b7 cx3 38, .box b5 cx1 48] w104 := Rd.of hS hG89 (by simp)
 refine ⟨fun _ => hR124, ?_⟩
 have hw109 : (c98 : List Value).length = 7 := Rep.len f98
 have hl109 : ((Zr.zc GFrame)).length = 7 := Rep.len zb103
 have hb109 : rep M98 (pt (Zr.zc GFrame) (0) c98) d110 := rep_eq (rep_whole (k := 7) (by rw [pt_length (by omega)]; exact hl109) (rep_leaf rfl f98 (by omega))) hd109
 generalize hg109 : (pt (Zr.zc GFrame) (0) c98) = cs109 at hb109
 refine WB_one (i := 7) (by kernel_rfl) rfl (O_st (j := 0) (v := .agg c98.toArray) (ws := c98) hS rfl (by kernel_rfl) rfl rfl rfl hw109 (Rep.one f98) (by omega) ?_)
 rw [hg109]
 clear hg109
 intro w108 hS
 replace hS : St w noX M98 [.box b103 cs109 38, .box b101 cs105 48, .row uR_94 3 1, .box b7 cx3 38, .box b5 cx1 48] w108 := hS
 have hR125 : Rd M [.box b7 cx3 38, .box b5 cx1 48] w108 := Rd.of hS hG89 (by simp)
 refine ⟨fun _ => hR125, ?_⟩
 refine WB_done (by kernel_rfl) (nm_then ?_)
 exact ⟨M98, b101, cs105, d106, b103, cs109, d110, hF87, (hS.sel (H' := [.box b103 cs109 38, .box b101 cs105 48, .box b7 cx3 38, .box b5 cx1 48]) [0, 1, 3, 4] (by decide) rfl), hb105, hb101, hb109, hb103, rfl, rfl, hT_1, rfl, rfl, hz⟩
 intro b103 w102 hb103 hS
 replace hS : St w noX M94 [.box b103 (Zr.zc GFrame) 38, .box b101 (Zr.zc GNode) 48, .row uR_94 3 1, .box b7 cx3 38, .box b5 cx1 48] w102 := hS
 have zb103 : rep M94 (Zr.zc GFrame) (Zr.zd : GFrame) := Zr.zr
 have hR126 : Rd M [.box b7 cx3 38, .box b5 cx1 48] w102 := Rd.of hS hG89 (by simp)
 refine ⟨fun _ => hR126, ?_⟩
 refine WB_one (i := 3) (by kernel_rfl) rfl (O_mem (vs := [.agg (sl cx3 (0) 7).toArray]) (rv := (fun M' u => ∃ cs, u = .agg cs.toArray ∧ rep M' cs r99)) cb16 (args1 rfl) hS (lawFrame_ok hS.agree ha92 hr98) ?_)
 intro u98 M98 w97 hx98 hu98 hS
 obtain ⟨c98, hq98, f98⟩ := hu98
 subst hq98
 replace hcx1 := Rep.mono hx98.1 hcx1
 replace hcx3 := Rep.mono hx98.1 hcx3
 replace ha91 := Rep.mono hx98.1 ha91
 replace ha92 := Rep.mono hx98.1 ha92
 replace f94_0 := Rep.mono hx98.1 f94_0
 replace zb101 := Rep.mono hx98.1 zb101
 replace zb103 := Rep.mono hx98.1 zb103
 replace hE := Mm.ext.trans hE hx98
 replace hF87 := Mm.ext.trans hF87 hx98
 replace hG89 := Mm.ext.trans hG89 hx98
 have hR127 : Rd M [.box b7 cx3 38, .box b5 cx1 48] w97 := Rd.of hS hG89 (by simp)
 refine ⟨fun _ => hR127, ?_⟩
 have hw105 : (c0_94 : List Value).length = 201 := Rep.len f94_0
 have hl105 : ((Zr.zc GNode)).length = 201 := Rep.len zb101
 have hb105 : rep M98 (pt (Zr.zc GNode) (0) c0_94) d106 := rep_eq (rep_whole (k := 201) (by rw [pt_length (by omega)]; exact hl105) (rep_leaf rfl f94_0 (by omega))) hd105
 have hp107 : sl (pt (Zr.zc GNode) (0) c0_94) (0 + 192) 1 = [uR_94] := (sl_pt_sub (by omega) (by omega)).trans f94_1
 generalize hg105 : (pt (Zr.zc GNode) (0) c0_94) = cs105 at hb105 hp107
 refine WB_one (i := 6) (by kernel_rfl) rfl (O_st (j := 1) (v := .agg c0_94.toArray) (ws := c0_94) hS rfl (by kernel_rfl) rfl rfl rfl hw105 (Rep.one f94_0) (by omega) ?_)
 rw [hg105]
 clear hg105
 intro w104 hS
 replace hS : St w noX M98 [.box b103 (Zr.zc GFrame) 38, .box b101 cs105 48, .row uR_94 3 1, .box b7 cx3 38, .box b5 cx1 48] w104 := hS
 have hR128 : Rd M [.box b7 cx3 38, .box b5 cx1 48] w104 := Rd.of hS hG89 (by simp)
 refine ⟨fun _ => hR128, ?_⟩
 have hw109 : (c98 : List Value).length = 7 := Rep.len f98
 have hl109 : ((Zr.zc GFrame)).length = 7 := Rep.len zb103
 have hb109 : rep M98 (pt (Zr.zc GFrame) (0) c98) d110 := rep_eq (rep_whole (k := 7) (by rw [pt_length (by omega)]; exact hl109) (rep_leaf rfl f98 (by omega))) hd109
 generalize hg109 : (pt (Zr.zc GFrame) (0) c98) = cs109 at hb109
 refine WB_one (i := 7) (by kernel_rfl) rfl (O_st (j := 0) (v := .agg c98.toArray) (ws := c98) hS rfl (by kernel_rfl) rfl rfl rfl hw109 (Rep.one f98) (by omega) ?_)
 rw [hg109]
 clear hg109
 intro w108 hS
 replace hS : St w noX M98 [.box b103 cs109 38, .box b101 cs105 48, .row uR_94 3 1, .box b7 cx3 38, .box b5 cx1 48] w108 := hS
 have hR129 : Rd M [.box b7 cx3 38, .box b5 cx1 48] w108 := Rd.of hS hG89 (by simp)
 refine ⟨fun _ => hR129, ?_⟩
 refine WB_done (by kernel_rfl) (nm_then ?_)
 exact ⟨M98, b101, cs105, d106, b103, cs109, d110, hF87, (hS.sel (H' := [.box b103 cs109 38, .box b101 cs105 48, .box b7 cx3 38, .box b5 cx1 48]) [0, 1, 3, 4] (by decide) rfl), hb105, hb101, hb109, hb103, rfl, rfl, hT_1, rfl, rfl, hz⟩
 intro b103 w102 hb103 hS
 replace hS : St w noX M94 [.box b103 (Zr.zc GFrame) 38, .row uR_94 3 1, .box b7 cx3 38, .box b5 cx1 48] w102 := hS
 have zb103 : rep M94 (Zr.zc GFrame) (Zr.zd : GFrame) := Zr.zr
 have hR130 : Rd M [.box b7 cx3 38, .box b5 cx1 48] w102 := Rd.of hS hG89 (by simp)
 refine ⟨fun _ => hR130, ?_⟩
 refine WB_two (i := 3) (j := 4) (by kernel_rfl) rfl rfl (O_mem (vs := [.agg (sl cx3 (0) 7).toArray]) (rv := (fun M' u => ∃ cs, u = .agg cs.toArray ∧ rep M' cs r99)) cb16 (args1 rfl) hS (lawFrame_ok hS.agree ha92 hr98) ?_) (O_alloc tz48 hS ?_)
 intro u98 M98 w97 hx98 hu98 hS
 obtain ⟨c98, hq98, f98⟩ := hu98
 subst hq98
 replace hcx1 := Rep.mono hx98.1 hcx1
 replace hcx3 := Rep.mono hx98.1 hcx3
 replace ha91 := Rep.mono hx98.1 ha91
 replace ha92 := Rep.mono hx98.1 ha92
 replace f94_0 := Rep.mono hx98.1 f94_0
 replace zb103 := Rep.mono hx98.1 zb103
 replace hE := Mm.ext.trans hE hx98
 replace hF87 := Mm.ext.trans hF87 hx98
 replace hG89 := Mm.ext.trans hG89 hx98
 have hR131 : Rd M [.box b7 cx3 38, .box b5 cx1 48] w97 := Rd.of hS hG89 (by simp)
 refine ⟨fun _ => hR131, ?_⟩
 refine WB_one (i := 4) (by kernel_rfl) rfl (O_alloc tz48 hS ?_)
 intro b101 w100 hb101 hS
 replace hS : St w noX M98 [.box b101 (Zr.zc GNode) 48, .box b103 (Zr.zc GFrame) 38, .row uR_94 3 1, .box b7 cx3 38, .box b5 cx1 48] w100 := hS
 have zb101 : rep M98 (Zr.zc GNode) (Zr.zd : GNode) := Zr.zr
 have hR132 : Rd M [.box b7 cx3 38, .box b5 cx1 48] w100 := Rd.of hS hG89 (by simp)
 refine ⟨fun _ => hR132, ?_⟩
 have hw105 : (c0_94 : List Value).length = 201 := Rep.len f94_0
 have hl105 : ((Zr.zc GNode)).length = 201 := Rep.len zb101
 have hb105 : rep M98 (pt (Zr.zc GNode) (0) c0_94) d106 := rep_eq (rep_whole (k := 201) (by rw [pt_length (by omega)]; exact hl105) (rep_leaf rfl f94_0 (by omega))) hd105
 have hp107 : sl (pt (Zr.zc GNode) (0) c0_94) (0 + 192) 1 = [uR_94] := (sl_pt_sub (by omega) (by omega)).trans f94_1
 generalize hg105 : (pt (Zr.zc GNode) (0) c0_94) = cs105 at hb105 hp107
 refine WB_one (i := 6) (by kernel_rfl) rfl (O_st (j := 0) (v := .agg c0_94.toArray) (ws := c0_94) hS rfl (by kernel_rfl) rfl rfl rfl hw105 (Rep.one f94_0) (by omega) ?_)
 rw [hg105]
 clear hg105
 intro w104 hS
 replace hS : St w noX M98 [.box b101 cs105 48, .box b103 (Zr.zc GFrame) 38, .row uR_94 3 1, .box b7 cx3 38, .box b5 cx1 48] w104 := hS
 have hR133 : Rd M [.box b7 cx3 38, .box b5 cx1 48] w104 := Rd.of hS hG89 (by simp)
 refine ⟨fun _ => hR133, ?_⟩
 have hw109 : (c98 : List Value).length = 7 := Rep.len f98
 have hl109 : ((Zr.zc GFrame)).length = 7 := Rep.len zb103
 have hb109 : rep M98 (pt (Zr.zc GFrame) (0) c98) d110 := rep_eq (rep_whole (k := 7) (by rw [pt_length (by omega)]; exact hl109) (rep_leaf rfl f98 (by omega))) hd109
 generalize hg109 : (pt (Zr.zc GFrame) (0) c98) = cs109 at hb109
 refine WB_one (i := 7) (by kernel_rfl) rfl (O_st (j := 1) (v := .agg c98.toArray) (ws := c98) hS rfl (by kernel_rfl) rfl rfl rfl hw109 (Rep.one f98) (by omega) ?_)
 rw [hg109]
 clear hg109
 intro w108 hS
 replace hS : St w noX M98 [.box b101 cs105 48, .box b103 cs109 38, .row uR_94 3 1, .box b7 cx3 38, .box b5 cx1 48] w108 := hS
 have hR134 : Rd M [.box b7 cx3 38, .box b5 cx1 48] w108 := Rd.of hS hG89 (by simp)
 refine ⟨fun _ => hR134, ?_⟩
 refine WB_done (by kernel_rfl) (nm_then ?_)
 exact ⟨M98, b101, cs105, d106, b103, cs109, d110, hF87, (hS.sel (H' := [.box b103 cs109 38, .box b101 cs105 48, .box b7 cx3 38, .box b5 cx1 48]) [1, 0, 3, 4] (by decide) rfl), hb105, hb101, hb109, hb103, rfl, rfl, hT_1, rfl, rfl, hz⟩
 intro b101 w100 hb101 hS
 replace hS : St w noX M94 [.box b101 (Zr.zc GNode) 48, .box b103 (Zr.zc GFrame) 38, .row uR_94 3 1, .box b7 cx3 38, .box b5 cx1 48] w100 := hS
 have zb101 : rep M94 (Zr.zc GNode) (Zr.zd : GNode) := Zr.zr
 have hR135 : Rd M [.box b7 cx3 38, .box b5 cx1 48] w100 := Rd.of hS hG89 (by simp)
 refine ⟨fun _ => hR135, ?_⟩
 refine WB_one (i := 3) (by kernel_rfl) rfl (O_mem (vs := [.agg (sl cx3 (0) 7).toArray]) (rv := (fun M' u => ∃ cs, u = .agg cs.toArray ∧ rep M' cs r99)) cb16 (args1 rfl) hS (lawFrame_ok hS.agree ha92 hr98) ?_)
 intro u98 M98 w97 hx98 hu98 hS
 obtain ⟨c98, hq98, f98⟩ := hu98
 subst hq98
 replace hcx1 := Rep.mono hx98.1 hcx1
 replace hcx3 := Rep.mono hx98.1 hcx3
 replace ha91 := Rep.mono hx98.1 ha91
 replace ha92 := Rep.mono hx98.1 ha92
 replace f94_0 := Rep.mono hx98.1 f94_0
 replace zb103 := Rep.mono hx98.1 zb103
 replace zb101 := Rep.mono hx98.1 zb101
 replace hE := Mm.ext.trans hE hx98
 replace hF87 := Mm.ext.trans hF87 hx98
 replace hG89 := Mm.ext.trans hG89 hx98
 have hR136 : Rd M [.box b7 cx3 38, .box b5 cx1 48] w97 := Rd.of hS hG89 (by simp)
 refine ⟨fun _ => hR136, ?_⟩
 have hw105 : (c0_94 : List Value).length = 201 := Rep.len f94_0
 have hl105 : ((Zr.zc GNode)).length = 201 := Rep.len zb101
 have hb105 : rep M98 (pt (Zr.zc GNode) (0) c0_94) d106 := rep_eq (rep_whole (k := 201) (by rw [pt_length (by omega)]; exact hl105) (rep_leaf rfl f94_0 (by omega))) hd105
 have hp107 : sl (pt (Zr.zc GNode) (0) c0_94) (0 + 192) 1 = [uR_94] := (sl_pt_sub (by omega) (by omega)).trans f94_1
 generalize hg105 : (pt (Zr.zc GNode) (0) c0_94) = cs105 at hb105 hp107
 refine WB_one (i := 6) (by kernel_rfl) rfl (O_st (j := 0) (v := .agg c0_94.toArray) (ws := c0_94) hS rfl (by kernel_rfl) rfl rfl rfl hw105 (Rep.one f94_0) (by omega) ?_)
 rw [hg105]
 clear hg105
 intro w104 hS
 replace hS : St w noX M98 [.box b101 cs105 48, .box b103 (Zr.zc GFrame) 38, .row uR_94 3 1, .box b7 cx3 38, .box b5 cx1 48] w104 := hS
 have hR137 : Rd M [.box b7 cx3 38, .box b5 cx1 48] w104 := Rd.of hS hG89 (by simp)
 refine ⟨fun _ => hR137, ?_⟩
 have hw109 : (c98 : List Value).length = 7 := Rep.len f98
 have hl109 : ((Zr.zc GFrame)).length = 7 := Rep.len zb103
 have hb109 : rep M98 (pt (Zr.zc GFrame) (0) c98) d110 := rep_eq (rep_whole (k := 7) (by rw [pt_length (by omega)]; exact hl109) (rep_leaf rfl f98 (by omega))) hd109
 generalize hg109 : (pt (Zr.zc GFrame) (0) c98) = cs109 at hb109
 refine WB_one (i := 7) (by kernel_rfl) rfl (O_st (j := 1) (v := .agg c98.toArray) (ws := c98) hS rfl (by kernel_rfl) rfl rfl rfl hw109 (Rep.one f98) (by omega) ?_)
 rw [hg109]
 clear hg109
 intro w108 hS
 replace hS : St w noX M98 [.box b101 cs105 48, .box b103 cs109 38, .row uR_94 3 1, .box b7 cx3 38, .box b5 cx1 48] w108 := hS
 have hR138 : Rd M [.box b7 cx3 38, .box b5 cx1 48] w108 := Rd.of hS hG89 (by simp)
 refine ⟨fun _ => hR138, ?_⟩
 refine WB_done (by kernel_rfl) (nm_then ?_)
 exact ⟨M98, b101, cs105, d106, b103, cs109, d110, hF87, (hS.sel (H' := [.box b103 cs109 38, .box b101 cs105 48, .box b7 cx3 38, .box b5 cx1 48]) [1, 0, 3, 4] (by decide) rfl), hb105, hb101, hb109, hb103, rfl, rfl, hT_1, rfl, rfl, hz⟩
 intro b101 w100 hb101 hS
 replace hS : St w noX M [.box b101 (Zr.zc GNode) 48, .box b7 cx3 38, .box b5 cx1 48] w100 := hS
 have zb101 : rep M (Zr.zc GNode) (Zr.zd : GNode) := Zr.zr
 have hR139 : Rd M [.box b7 cx3 38, .box b5 cx1 48] w100 := Rd.of hS hG89 (by simp)
 refine ⟨fun _ => hR139, ?_⟩
 refine WB_two (i := 1) (j := 5) (by kernel_rfl) rfl rfl (O_lend (vs := [.agg (sl cx1 (0) 201).toArray]) (L := []) (R := [.box b101 (Zr.zc GNode) 48, .box b7 cx3 38, .box b5 cx1 48]) (rv := (fun M' u L' => ∃ c0 uR, u = .agg c0.toArray ∧ L' = [.row uR 3 1] ∧ rep M' c0 r95 ∧ sl c0 192 1 = [uR])) cb15 (args1 rfl) hS (hS.sel [0, 1, 2] (by decide) rfl) (fun hS => copyNode_ok hS.agree ha91 hr94) ?_) (O_alloc tz38 hS ?_)
 rintro u94 M94 w93 L94 hx94 ⟨c0_94, uR_94, rfl, hL94, f94_0, f94_1⟩ hS
 replace hS := hS _ hL94
 replace hcx1 := Rep.mono hx94.1 hcx1
 replace hcx3 := Rep.mono hx94.1 hcx3
 replace ha91 := Rep.mono hx94.1 ha91
 replace ha92 := Rep.mono hx94.1 ha92
 replace zb101 := Rep.mono hx94.1 zb101
 replace hE := Mm.ext.trans hE hx94
 replace hF87 := Mm.ext.trans hF87 hx94
 replace hG89 := Mm.ext.trans hG89 hx94
 replace hS : St w noX M94 [.row uR_94 3 1, .box b101 (Zr.zc GNode) 48, .box b7 cx3 38, .box b5 cx1 48] w93 := hS
 have hR140 : Rd M [.box b7 cx3 38, .box b5 cx1 48] w93 := Rd.of hS hG89 (by simp)
 refine ⟨fun _ => hR140, ?_⟩
 refine WB_two (i := 3) (j := 5) (by kernel_rfl) rfl rfl (O_mem (vs := [.agg (sl cx3 (0) 7).toArray]) (rv := (fun M' u => ∃ cs, u = .agg cs.toArray ∧ rep M' cs r99)) cb16 (args1 rfl) hS (lawFrame_ok hS.agree ha92 hr98) ?_) (O_alloc tz38 hS ?_)
 intro u98 M98 w97 hx98 hu98 hS
 obtain ⟨c98, hq98, f98⟩ := hu98
 subst hq98
 replace hcx1 := Rep.mono hx98.1 hcx1
 replace hcx3 := Rep.mono hx98.1 hcx3
 replace ha91 := Rep.mono hx98.1 ha91
 replace ha92 := Rep.mono hx98.1 ha92
 replace zb101 := Rep.mono hx98.1 zb101
 replace f94_0 := Rep.mono hx98.1 f94_0
 replace hE := Mm.ext.trans hE hx98
 replace hF87 := Mm.ext.trans hF87 hx98
 replace hG89 := Mm.ext.trans hG89 hx98
 have hR141 : Rd M [.box b7 cx3 38, .box b5 cx1 48] w97 := Rd.of hS hG89 (by simp)
 refine ⟨fun _ => hR141, ?_⟩
 refine WB_one (i := 5) (by kernel_rfl) rfl (O_alloc tz38 hS ?_)
 intro b103 w102 hb103 hS
 replace hS : St w noX M98 [.box b103 (Zr.zc GFrame) 38, .row uR_94 3 1, .box b101 (Zr.zc GNode) 48, .box b7 cx3 38, .box b5 cx1 48] w102 := hS
 have zb103 : rep M98 (Zr.zc GFrame) (Zr.zd : GFrame) := Zr.zr
 have hR142 : Rd M [.box b7 cx3 38, .box b5 cx1 48] w102 := Rd.of hS hG89 (by simp)
 refine ⟨fun _ => hR142, ?_⟩
 have hw105 : (c0_94 : List Value).length = 201 := Rep.len f94_0
 have hl105 : ((Zr.zc GNode)).length = 201 := Rep.len zb101
 have hb105 : rep M98 (pt (Zr.zc GNode) (0) c0_94) d106 := rep_eq (rep_whole (k := 201) (by rw [pt_length (by omega)]; exact hl105) (rep_leaf rfl f94_0 (by omega))) hd105
 have hp107 : sl (pt (Zr.zc GNode) (0) c0_94) (0 + 192) 1 = [uR_94] := (sl_pt_sub (by omega) (by omega)).trans f94_1
 generalize hg105 : (pt (Zr.zc GNode) (0) c0_94) = cs105 at hb105 hp107
 refine WB_one (i := 6) (by kernel_rfl) rfl (O_st (j := 2) (v := .agg c0_94.toArray) (ws := c0_94) hS rfl (by kernel_rfl) rfl rfl rfl hw105 (Rep.one f94_0) (by omega) ?_)
 rw [hg105]
 clear hg105
 intro w104 hS
 replace hS : St w noX M98 [.box b103 (Zr.zc GFrame) 38, .row uR_94 3 1, .box b101 cs105 48, .box b7 cx3 38, .box b5 cx1 48] w104 := hS
 have hR143 : Rd M [.box b7 cx3 38, .box b5 cx1 48] w104 := Rd.of hS hG89 (by simp)
 refine ⟨fun _ => hR143, ?_⟩
 have hw109 : (c98 : List Value).length = 7 := Rep.len f98
 have hl109 : ((Zr.zc GFrame)).length = 7 := Rep.len zb103
 have hb109 : rep M98 (pt (Zr.zc GFrame) (0) c98) d110 := rep_eq (rep_whole (k := 7) (by rw [pt_length (by omega)]; exact hl109) (rep_leaf rfl f98 (by omega))) hd109
 generalize hg109 : (pt (Zr.zc GFrame) (0) c98) = cs109 at hb109
 refine WB_one (i := 7) (by kernel_rfl) rfl (O_st (j := 0) (v := .agg c98.toArray) (ws := c98) hS rfl (by kernel_rfl) rfl rfl rfl hw109 (Rep.one f98) (by omega) ?_)
 rw [hg109]
 clear hg109
 intro w108 hS
 replace hS : St w noX M98 [.box b103 cs109 38, .row uR_94 3 1, .box b101 cs105 48, .box b7 cx3 38, .box b5 cx1 48] w108 := hS
 have hR144 : Rd M [.box b7 cx3 38, .box b5 cx1 48] w108 := Rd.of hS hG89 (by simp)
 refine ⟨fun _ => hR144, ?_⟩
 refine WB_done (by kernel_rfl) (nm_then ?_)
 exact ⟨M98, b101, cs105, d106, b103, cs109, d110, hF87, (hS.sel (H' := [.box b103 cs109 38, .box b101 cs105 48, .box b7 cx3 38, .box b5 cx1 48]) [0, 2, 3, 4] (by decide) rfl), hb105, hb101, hb109, hb103, rfl, rfl, hT_1, rfl, rfl, hz⟩
 intro b103 w102 hb103 hS
 replace hS : St w noX M94 [.box b103 (Zr.zc GFrame) 38, .row uR_94 3 1, .box b101 (Zr.zc GNode) 48, .box b7 cx3 38, .box b5 cx1 48] w102 := hS
 have zb103 : rep M94 (Zr.zc GFrame) (Zr.zd : GFrame) := Zr.zr
 have hR145 : Rd M [.box b7 cx3 38, .box b5 cx1 48] w102 := Rd.of hS hG89 (by simp)
 refine ⟨fun _ => hR145, ?_⟩
 refine WB_one (i := 3) (by kernel_rfl) rfl (O_mem (vs := [.agg (sl cx3 (0) 7).toArray]) (rv := (fun M' u => ∃ cs, u = .agg cs.toArray ∧ rep M' cs r99)) cb16 (args1 rfl) hS (lawFrame_ok hS.agree ha92 hr98) ?_)
 intro u98 M98 w97 hx98 hu98 hS
 obtain ⟨c98, hq98, f98⟩ := hu98
 subst hq98
 replace hcx1 := Rep.mono hx98.1 hcx1
 replace hcx3 := Rep.mono hx98.1 hcx3
 replace ha91 := Rep.mono hx98.1 ha91
 replace ha92 := Rep.mono hx98.1 ha92
 replace zb101 := Rep.mono hx98.1 zb101
 replace f94_0 := Rep.mono hx98.1 f94_0
 replace zb103 := Rep.mono hx98.1 zb103
 replace hE := Mm.ext.trans hE hx98
 replace hF87 := Mm.ext.trans hF87 hx98
 replace hG89 := Mm.ext.trans hG89 hx98
 have hR146 : Rd M [.box b7 cx3 38, .box b5 cx1 48] w97 := Rd.of hS hG89 (by simp)
 refine ⟨fun _ => hR146, ?_⟩
 have hw105 : (c0_94 : List Value).length = 201 := Rep.len f94_0
 have hl105 : ((Zr.zc GNode)).length = 201 := Rep.len zb101
 have hb105 : rep M98 (pt (Zr.zc GNode) (0) c0_94) d106 := rep_eq (rep_whole (k := 201) (by rw [pt_length (by omega)]; exact hl105) (rep_leaf rfl f94_0 (by omega))) hd105
 have hp107 : sl (pt (Zr.zc GNode) (0) c0_94) (0 + 192) 1 = [uR_94] := (sl_pt_sub (by omega) (by omega)).trans f94_1
 generalize hg105 : (pt (Zr.zc GNode) (0) c0_94) = cs105 at hb105 hp107
 refine WB_one (i := 6) (by kernel_rfl) rfl (O_st (j := 2) (v := .agg c0_94.toArray) (ws := c0_94) hS rfl (by kernel_rfl) rfl rfl rfl hw105 (Rep.one f94_0) (by omega) ?_)
 rw [hg105]
 clear hg105
 intro w104 hS
 replace hS : St w noX M98 [.box b103 (Zr.zc GFrame) 38, .row uR_94 3 1, .box b101 cs105 48, .box b7 cx3 38, .box b5 cx1 48] w104 := hS
 have hR147 : Rd M [.box b7 cx3 38, .box b5 cx1 48] w104 := Rd.of hS hG89 (by simp)
 refine ⟨fun _ => hR147, ?_⟩
 have hw109 : (c98 : List Value).length = 7 := Rep.len f98
 have hl109 : ((Zr.zc GFrame)).length = 7 := Rep.len zb103
 have hb109 : rep M98 (pt (Zr.zc GFrame) (0) c98) d110 := rep_eq (rep_whole (k := 7) (by rw [pt_length (by omega)]; exact hl109) (rep_leaf rfl f98 (by omega))) hd109
 generalize hg109 : (pt (Zr.zc GFrame) (0) c98) = cs109 at hb109
 refine WB_one (i := 7) (by kernel_rfl) rfl (O_st (j := 0) (v := .agg c98.toArray) (ws := c98) hS rfl (by kernel_rfl) rfl rfl rfl hw109 (Rep.one f98) (by omega) ?_)
 rw [hg109]
 clear hg109
 intro w108 hS
 replace hS : St w noX M98 [.box b103 cs109 38, .row uR_94 3 1, .box b101 cs105 48, .box b7 cx3 38, .box b5 cx1 48] w108 := hS
 have hR148 : Rd M [.box b7 cx3 38, .box b5 cx1 48] w108 := Rd.of hS hG89 (by simp)
 refine ⟨fun _ => hR148, ?_⟩
 refine WB_done (by kernel_rfl) (nm_then ?_)
 exact ⟨M98, b101, cs105, d106, b103, cs109, d110, hF87, (hS.sel (H' := [.box b103 cs109 38, .box b101 cs105 48, .box b7 cx3 38, .box b5 cx1 48]) [0, 2, 3, 4] (by decide) rfl), hb105, hb101, hb109, hb103, rfl, rfl, hT_1, rfl, rfl, hz⟩
 intro b103 w102 hb103 hS
 replace hS : St w noX M [.box b103 (Zr.zc GFrame) 38, .box b101 (Zr.zc GNode) 48, .box b7 cx3 38, .box b5 cx1 48] w102 := hS
 have zb103 : rep M (Zr.zc GFrame) (Zr.zd : GFrame) := Zr.zr
 have hR149 : Rd M [.box b7 cx3 38, .box b5 cx1 48] w102 := Rd.of hS hG89 (by simp)
 refine ⟨fun _ => hR149, ?_⟩
 refine WB_one (i := 1) (by kernel_rfl) rfl (O_lend (vs := [.agg (sl cx1 (0) 201).toArray]) (L := []) (R := [.box b103 (Zr.zc GFrame) 38, .box b101 (Zr.zc GNode) 48, .box b7 cx3 38, .box b5 cx1 48]) (rv := (fun M' u L' => ∃ c0 uR, u = .agg c0.toArray ∧ L' = [.row uR 3 1] ∧ rep M' c0 r95 ∧ sl c0 192 1 = [uR])) cb15 (args1 rfl) hS (hS.sel [0, 1, 2, 3] (by decide) rfl) (fun hS => copyNode_ok hS.agree ha91 hr94) ?_)
 rintro u94 M94 w93 L94 hx94 ⟨c0_94, uR_94, rfl, hL94, f94_0, f94_1⟩ hS
 replace hS := hS _ hL94
 replace hcx1 := Rep.mono hx94.1 hcx1
 replace hcx3 := Rep.mono hx94.1 hcx3
 replace ha91 := Rep.mono hx94.1 ha91
 replace ha92 := Rep.mono hx94.1 ha92
 replace zb101 := Rep.mono hx94.1 zb101
 replace zb103 := Rep.mono hx94.1 zb103
 replace hE := Mm.ext.trans hE hx94
 replace hF87 := Mm.ext.trans hF87 hx94
 replace hG89 := Mm.ext.trans hG89 hx94
 replace hS : St w noX M94 [.row uR_94 3 1, .box b103 (Zr.zc GFrame) 38, .box b101 (Zr.zc GNode) 48, .box b7 cx3 38, .box b5 cx1 48] w93 := hS
 have hR150 : Rd M [.box b7 cx3 38, .box b5 cx1 48] w93 := Rd.of hS hG89 (by simp)
 refine ⟨fun _ => hR150, ?_⟩
 refine WB_one (i := 3) (by kernel_rfl) rfl (O_mem (vs := [.agg (sl cx3 (0) 7).toArray]) (rv := (fun M' u => ∃ cs, u = .agg cs.toArray ∧ rep M' cs r99)) cb16 (args1 rfl) hS (lawFrame_ok hS.agree ha92 hr98) ?_)
 intro u98 M98 w97 hx98 hu98 hS
 obtain ⟨c98, hq98, f98⟩ := hu98
 subst hq98
 replace hcx1 := Rep.mono hx98.1 hcx1
 replace hcx3 := Rep.mono hx98.1 hcx3
 replace ha91 := Rep.mono hx98.1 ha91
 replace ha92 := Rep.mono hx98.1 ha92
 replace zb101 := Rep.mono hx98.1 zb101
 replace zb103 := Rep.mono hx98.1 zb103
 replace f94_0 := Rep.mono hx98.1 f94_0
 replace hE := Mm.ext.trans hE hx98
 replace hF87 := Mm.ext.trans hF87 hx98
 replace hG89 := Mm.ext.trans hG89 hx98
 have hR151 : Rd M [.box b7 cx3 38, .box b5 cx1 48] w97 := Rd.of hS hG89 (by simp)
 refine ⟨fun _ => hR151, ?_⟩
 have hw105 : (c0_94 : List Value).length = 201 := Rep.len f94_0
 have hl105 : ((Zr.zc GNode)).length = 201 := Rep.len zb101
 have hb105 : rep M98 (pt (Zr.zc GNode) (0) c0_94) d106 := rep_eq (rep_whole (k := 201) (by rw [pt_length (by omega)]; exact hl105) (rep_leaf rfl f94_0 (by omega))) hd105
 have hp107 : sl (pt (Zr.zc GNode) (0) c0_94) (0 + 192) 1 = [uR_94] := (sl_pt_sub (by omega) (by omega)).trans f94_1
 generalize hg105 : (pt (Zr.zc GNode) (0) c0_94) = cs105 at hb105 hp107
 refine WB_one (i := 6) (by kernel_rfl) rfl (O_st (j := 2) (v := .agg c0_94.toArray) (ws := c0_94) hS rfl (by kernel_rfl) rfl rfl rfl hw105 (Rep.one f94_0) (by omega) ?_)
 rw [hg105]
 clear hg105
 intro w104 hS
 replace hS : St w noX M98 [.row uR_94 3 1, .box b103 (Zr.zc GFrame) 38, .box b101 cs105 48, .box b7 cx3 38, .box b5 cx1 48] w104 := hS
 have hR152 : Rd M [.box b7 cx3 38, .box b5 cx1 48] w104 := Rd.of hS hG89 (by simp)
 refine ⟨fun _ => hR152, ?_⟩
 have hw109 : (c98 : List Value).length = 7 := Rep.len f98
 have hl109 : ((Zr.zc GFrame)).length = 7 := Rep.len zb103
 have hb109 : rep M98 (pt (Zr.zc GFrame) (0) c98) d110 := rep_eq (rep_whole (k := 7) (by rw [pt_length (by omega)]; exact hl109) (rep_leaf rfl f98 (by omega))) hd109
 generalize hg109 : (pt (Zr.zc GFrame) (0) c98) = cs109 at hb109
 refine WB_one (i := 7) (by kernel_rfl) rfl (O_st (j := 1) (v := .agg c98.toArray) (ws := c98) hS rfl (by kernel_rfl) rfl rfl rfl hw109 (Rep.one f98) (by omega) ?_)
 rw [hg109]
 clear hg109
 intro w108 hS
 replace hS : St w noX M98 [.row uR_94 3 1, .box b103 cs109 38, .box b101 cs105 48, .box b7 cx3 38, .box b5 cx1 48] w108 := hS
 have hR153 : Rd M [.box b7 cx3 38, .box b5 cx1 48] w108 := Rd.of hS hG89 (by simp)
 refine ⟨fun _ => hR153, ?_⟩
 refine WB_done (by kernel_rfl) (nm_then ?_)
 exact ⟨M98, b101, cs105, d106, b103, cs109, d110, hF87, (St.drop hS), hb105, hb101, hb109, hb103, rfl, rfl, hT_1, rfl, rfl, hz⟩
 intro b103 w102 hb103 hS
 replace hS : St w noX M [.box b103 (Zr.zc GFrame) 38, .box b7 cx3 38, .box b5 cx1 48] w102 := hS
 have zb103 : rep M (Zr.zc GFrame) (Zr.zd : GFrame) := Zr.zr
 have hR154 : Rd M [.box b7 cx3 38, .box b5 cx1 48] w102 := Rd.of hS hG89 (by simp)
 refine ⟨fun _ => hR154, ?_⟩
 refine WB_two (i := 1) (j := 4) (by kernel_rfl) rfl rfl (O_lend (vs := [.agg (sl cx1 (0) 201).toArray]) (L := []) (R := [.box b103 (Zr.zc GFrame) 38, .box b7 cx3 38, .box b5 cx1 48]) (rv := (fun M' u L' => ∃ c0 uR, u = .agg c0.toArray ∧ L' = [.row uR 3 1] ∧ rep M' c0 r95 ∧ sl c0 192 1 = [uR])) cb15 (args1 rfl) hS (hS.sel [0, 1, 2] (by decide) rfl) (fun hS => copyNode_ok hS.agree ha91 hr94) ?_) (O_alloc tz48 hS ?_)
 rintro u94 M94 w93 L94 hx94 ⟨c0_94, uR_94, rfl, hL94, f94_0, f94_1⟩ hS
 replace hS := hS _ hL94
 replace hcx1 := Rep.mono hx94.1 hcx1
 replace hcx3 := Rep.mono hx94.1 hcx3
 replace ha91 := Rep.mono hx94.1 ha91
 replace ha92 := Rep.mono hx94.1 ha92
 replace zb103 := Rep.mono hx94.1 zb103
 replace hE := Mm.ext.trans hE hx94
 replace hF87 := Mm.ext.trans hF87 hx94
 replace hG89 := Mm.ext.trans hG89 hx94
 replace hS : St w noX M94 [.row uR_94 3 1, .box b103 (Zr.zc GFrame) 38, .box b7 cx3 38, .box b5 cx1 48] w93 := hS
 have hR155 : Rd M [.box b7 cx3 38, .box b5 cx1 48] w93 := Rd.of hS hG89 (by simp)
 refine ⟨fun _ => hR155, ?_⟩
 refine WB_two (i := 3) (j := 4) (by kernel_rfl) rfl rfl (O_mem (vs := [.agg (sl cx3 (0) 7).toArray]) (rv := (fun M' u => ∃ cs, u = .agg cs.toArray ∧ rep M' cs r99)) cb16 (args1 rfl) hS (lawFrame_ok hS.agree ha92 hr98) ?_) (O_alloc tz48 hS ?_)
 intro u98 M98 w97 hx98 hu98 hS
 obtain ⟨c98, hq98, f98⟩ := hu98
 subst hq98
 replace hcx1 := Rep.mono hx98.1 hcx1
 replace hcx3 := Rep.mono hx98.1 hcx3
 replace ha91 := Rep.mono hx98.1 ha91
 replace ha92 := Rep.mono hx98.1 ha92
 replace zb103 := Rep.mono hx98.1 zb103
 replace f94_0 := Rep.mono hx98.1 f94_0
 replace hE := Mm.ext.trans hE hx98
 replace hF87 := Mm.ext.trans hF87 hx98
 replace hG89 := Mm.ext.trans hG89 hx98
 have hR156 : Rd M [.box b7 cx3 38, .box b5 cx1 48] w97 := Rd.of hS hG89 (by simp)
 refine ⟨fun _ => hR156, ?_⟩
 refine WB_one (i := 4) (by kernel_rfl) rfl (O_alloc tz48 hS ?_)
 intro b101 w100 hb101 hS
 replace hS : St w noX M98 [.box b101 (Zr.zc GNode) 48, .row uR_94 3 1, .box b103 (Zr.zc GFrame) 38, .box b7 cx3 38, .box b5 cx1 48] w100 := hS
 have zb101 : rep M98 (Zr.zc GNode) (Zr.zd : GNode) := Zr.zr
 have hR157 : Rd M [.box b7 cx3 38, .box b5 cx1 48] w100 := Rd.of hS hG89 (by simp)
 refine ⟨fun _ => hR157, ?_⟩
 have hw105 : (c0_94 : List Value).length = 201 := Rep.len f94_0
 have hl105 : ((Zr.zc GNode)).length = 201 := Rep.len zb101
 have hb105 : rep M98 (pt (Zr.zc GNode) (0) c0_94) d106 := rep_eq (rep_whole (k := 201) (by rw [pt_length (by omega)]; exact hl105) (rep_leaf rfl f94_0 (by omega))) hd105
 have hp107 : sl (pt (Zr.zc GNode) (0) c0_94) (0 + 192) 1 = [uR_94] := (sl_pt_sub (by omega) (by omega)).trans f94_1
 generalize hg105 : (pt (Zr.zc GNode) (0) c0_94) = cs105 at hb105 hp107
 refine WB_one (i := 6) (by kernel_rfl) rfl (O_st (j := 0) (v := .agg c0_94.toArray) (ws := c0_94) hS rfl (by kernel_rfl) rfl rfl rfl hw105 (Rep.one f94_0) (by omega) ?_)
 rw [hg105]
 clear hg105
 intro w104 hS
 replace hS : St w noX M98 [.box b101 cs105 48, .row uR_94 3 1, .box b103 (Zr.zc GFrame) 38, .box b7 cx3 38, .box b5 cx1 48] w104 := hS
 have hR158 : Rd M [.box b7 cx3 38, .box b5 cx1 48] w104 := Rd.of hS hG89 (by simp)
 refine ⟨fun _ => hR158, ?_⟩
 have hw109 : (c98 : List Value).length = 7 := Rep.len f98
 have hl109 : ((Zr.zc GFrame)).length = 7 := Rep.len zb103
 have hb109 : rep M98 (pt (Zr.zc GFrame) (0) c98) d110 := rep_eq (rep_whole (k := 7) (by rw [pt_length (by omega)]; exact hl109) (rep_leaf rfl f98 (by omega))) hd109
 generalize hg109 : (pt (Zr.zc GFrame) (0) c98) = cs109 at hb109
 refine WB_one (i := 7) (by kernel_rfl) rfl (O_st (j := 2) (v := .agg c98.toArray) (ws := c98) hS rfl (by kernel_rfl) rfl rfl rfl hw109 (Rep.one f98) (by omega) ?_)
 rw [hg109]
 clear hg109
 intro w108 hS
 replace hS : St w noX M98 [.box b101 cs105 48, .row uR_94 3 1, .box b103 cs109 38, .box b7 cx3 38, .box b5 cx1 48] w108 := hS
 have hR159 : Rd M [.box b7 cx3 38, .box b5 cx1 48] w108 := Rd.of hS hG89 (by simp)
 refine ⟨fun _ => hR159, ?_⟩
 refine WB_done (by kernel_rfl) (nm_then ?_)
 exact ⟨M98, b101, cs105, d106, b103, cs109, d110, hF87, (hS.sel (H' := [.box b103 cs109 38, .box b101 cs105 48, .box b7 cx3 38, .box b5 cx1 48]) [2, 0, 3, 4] (by decide) rfl), hb105, hb101, hb109, hb103, rfl, rfl, hT_1, rfl, rfl, hz⟩
 intro b101 w100 hb101 hS
 replace hS : St w noX M94 [.box b101 (Zr.zc GNode) 48, .row uR_94 3 1, .box b103 (Zr.zc GFrame) 38, .box b7 cx3 38, .box b5 cx1 48] w100 := hS
 have zb101 : rep M94 (Zr.zc GNode) (Zr.zd : GNode) := Zr.zr
 have hR160 : Rd M [.box b7 cx3 38, .box b5 cx1 48] w100 := Rd.of hS hG89 (by simp)
 refine ⟨fun _ => hR160, ?_⟩
 refine WB_one (i := 3) (by kernel_rfl) rfl (O_mem (vs := [.agg (sl cx3 (0) 7).toArray]) (rv := (fun M' u => ∃ cs, u = .agg cs.toArray ∧ rep M' cs r99)) cb16 (args1 rfl) hS (lawFrame_ok hS.agree ha92 hr98) ?_)
 intro u98 M98 w97 hx98 hu98 hS
 obtain ⟨c98, hq98, f98⟩ := hu98
 subst hq98
 replace hcx1 := Rep.mono hx98.1 hcx1
 replace hcx3 := Rep.mono hx98.1 hcx3
 replace ha91 := Rep.mono hx98.1 ha91
 replace ha92 := Rep.mono hx98.1 ha92
 replace zb103 := Rep.mono hx98.1 zb103
 replace f94_0 := Rep.mono hx98.1 f94_0
 replace zb101 := Rep.mono hx98.1 zb101
 replace hE := Mm.ext.trans hE hx98
 replace hF87 := Mm.ext.trans hF87 hx98
 replace hG89 := Mm.ext.trans hG89 hx98
 have hR161 : Rd M [.box b7 cx3 38, .box b5 cx1 48] w97 := Rd.of hS hG89 (by simp)
 refine ⟨fun _ => hR161, ?_⟩
 have hw105 : (c0_94 : List Value).length = 201 := Rep.len f94_0
 have hl105 : ((Zr.zc GNode)).length = 201 := Rep.len zb101
 have hb105 : rep M98 (pt (Zr.zc GNode) (0) c0_94) d106 := rep_eq (rep_whole (k := 201) (by rw [pt_length (by omega)]; exact hl105) (rep_leaf rfl f94_0 (by omega))) hd105
 have hp107 : sl (pt (Zr.zc GNode) (0) c0_94) (0 + 192) 1 = [uR_94] := (sl_pt_sub (by omega) (by omega)).trans f94_1
 generalize hg105 : (pt (Zr.zc GNode) (0) c0_94) = cs105 at hb105 hp107
 refine WB_one (i := 6) (by kernel_rfl) rfl (O_st (j := 0) (v := .agg c0_94.toArray) (ws := c0_94) hS rfl (by kernel_rfl) rfl rfl rfl hw105 (Rep.one f94_0) (by omega) ?_)
 rw [hg105]
 clear hg105
 intro w104 hS
 replace hS : St w noX M98 [.box b101 cs105 48, .row uR_94 3 1, .box b103 (Zr.zc GFrame) 38, .box b7 cx3 38, .box b5 cx1 48] w104 := hS
 have hR162 : Rd M [.box b7 cx3 38, .box b5 cx1 48] w104 := Rd.of hS hG89 (by simp)
 refine ⟨fun _ => hR162, ?_⟩
 have hw109 : (c98 : List Value).length = 7 := Rep.len f98
 have hl109 : ((Zr.zc GFrame)).length = 7 := Rep.len zb103
 have hb109 : rep M98 (pt (Zr.zc GFrame) (0) c98) d110 := rep_eq (rep_whole (k := 7) (by rw [pt_length (by omega)]; exact hl109) (rep_leaf rfl f98 (by omega))) hd109
 generalize hg109 : (pt (Zr.zc GFrame) (0) c98) = cs109 at hb109
 refine WB_one (i := 7) (by kernel_rfl) rfl (O_st (j := 2) (v := .agg c98.toArray) (ws := c98) hS rfl (by kernel_rfl) rfl rfl rfl hw109 (Rep.one f98) (by omega) ?_)
 rw [hg109]
 clear hg109
 intro w108 hS
 replace hS : St w noX M98 [.box b101 cs105 48, .row uR_94 3 1, .box b103 cs109 38, .box b7 cx3 38, .box b5 cx1 48] w108 := hS
 have hR163 : Rd M [.box b7 cx3 38, .box b5 cx1 48] w108 := Rd.of hS hG89 (by simp)
 refine ⟨fun _ => hR163, ?_⟩
 refine WB_done (by kernel_rfl) (nm_then ?_)
 exact ⟨M98, b101, cs105, d106, b103, cs109, d110, hF87, (hS.sel (H' := [.box b103 cs109 38, .box b101 cs105 48, .box b7 cx3 38, .box b5 cx1 48]) [2, 0, 3, 4] (by decide) rfl), hb105, hb101, hb109, hb103, rfl, rfl, hT_1, rfl, rfl, hz⟩
 intro b101 w100 hb101 hS
 replace hS : St w noX M [.box b101 (Zr.zc GNode) 48, .box b103 (Zr.zc GFrame) 38, .box b7 cx3 38, .box b5 cx1 48] w100 := hS
 have zb101 : rep M (Zr.zc GNode) (Zr.zd : GNode) := Zr.zr
 have hR164 : Rd M [.box b7 cx3 38, .box b5 cx1 48] w100 := Rd.of hS hG89 (by simp)
 refine ⟨fun _ => hR164, ?_⟩
 refine WB_one (i := 1) (by kernel_rfl) rfl (O_lend (vs := [.agg (sl cx1 (0) 201).toArray]) (L := []) (R := [.box b101 (Zr.zc GNode) 48, .box b103 (Zr.zc GFrame) 38, .box b7 cx3 38, .box b5 cx1 48]) (rv := (fun M' u L' => ∃ c0 uR, u = .agg c0.toArray ∧ L' = [.row uR 3 1] ∧ rep M' c0 r95 ∧ sl c0 192 1 = [uR])) cb15 (args1 rfl) hS (hS.sel [0, 1, 2, 3] (by decide) rfl) (fun hS => copyNode_ok hS.agree ha91 hr94) ?_)
 rintro u94 M94 w93 L94 hx94 ⟨c0_94, uR_94, rfl, hL94, f94_0, f94_1⟩ hS
 replace hS := hS _ hL94
 replace hcx1 := Rep.mono hx94.1 hcx1
 replace hcx3 := Rep.mono hx94.1 hcx3
 replace ha91 := Rep.mono hx94.1 ha91
 replace ha92 := Rep.mono hx94.1 ha92
 replace zb103 := Rep.mono hx94.1 zb103
 replace zb101 := Rep.mono hx94.1 zb101
 replace hE := Mm.ext.trans hE hx94
 replace hF87 := Mm.ext.trans hF87 hx94
 replace hG89 := Mm.ext.trans hG89 hx94
 replace hS : St w noX M94 [.row uR_94 3 1, .box b101 (Zr.zc GNode) 48, .box b103 (Zr.zc GFrame) 38, .box b7 cx3 38, .box b5 cx1 48] w93 := hS
 have hR165 : Rd M [.box b7 cx3 38, .box b5 cx1 48] w93 := Rd.of hS hG89 (by simp)
 refine ⟨fun _ => hR165, ?_⟩
 refine WB_one (i := 3) (by kernel_rfl) rfl (O_mem (vs := [.agg (sl cx3 (0) 7).toArray]) (rv := (fun M' u => ∃ cs, u = .agg cs.toArray ∧ rep M' cs r99)) cb16 (args1 rfl) hS (lawFrame_ok hS.agree ha92 hr98) ?_)
 intro u98 M98 w97 hx98 hu98 hS
 obtain ⟨c98, hq98, f98⟩ := hu98
 subst hq98
 replace hcx1 := Rep.mono hx98.1 hcx1
 replace hcx3 := Rep.mono hx98.1 hcx3
 replace ha91 := Rep.mono hx98.1 ha91
 replace ha92 := Rep.mono hx98.1 ha92
 replace zb103 := Rep.mono hx98.1 zb103
 replace zb101 := Rep.mono hx98.1 zb101
 replace f94_0 := Rep.mono hx98.1 f94_0
 replace hE := Mm.ext.trans hE hx98
 replace hF87 := Mm.ext.trans hF87 hx98
 replace hG89 := Mm.ext.trans hG89 hx98
 have hR166 : Rd M [.box b7 cx3 38, .box b5 cx1 48] w97 := Rd.of hS hG89 (by simp)
 refine ⟨fun _ => hR166, ?_⟩
 have hw105 : (c0_94 : List Value).length = 201 := Rep.len f94_0
 have hl105 : ((Zr.zc GNode)).length = 201 := Rep.len zb101
 have hb105 : rep M98 (pt (Zr.zc GNode) (0) c0_94) d106 := rep_eq (rep_whole (k := 201) (by rw [pt_length (by omega)]; exact hl105) (rep_leaf rfl f94_0 (by omega))) hd105
 have hp107 : sl (pt (Zr.zc GNode) (0) c0_94) (0 + 192) 1 = [uR_94] := (sl_pt_sub (by omega) (by omega)).trans f94_1
 generalize hg105 : (pt (Zr.zc GNode) (0) c0_94) = cs105 at hb105 hp107
 refine WB_one (i := 6) (by kernel_rfl) rfl (O_st (j := 1) (v := .agg c0_94.toArray) (ws := c0_94) hS rfl (by kernel_rfl) rfl rfl rfl hw105 (Rep.one f94_0) (by omega) ?_)
 rw [hg105]
 clear hg105
 intro w104 hS
 replace hS : St w noX M98 [.row uR_94 3 1, .box b101 cs105 48, .box b103 (Zr.zc GFrame) 38, .box b7 cx3 38, .box b5 cx1 48] w104 := hS
 have hR167 : Rd M [.box b7 cx3 38, .box b5 cx1 48] w104 := Rd.of hS hG89 (by simp)
 refine ⟨fun _ => hR167, ?_⟩
 have hw109 : (c98 : List Value).length = 7 := Rep.len f98
 have hl109 : ((Zr.zc GFrame)).length = 7 := Rep.len zb103
 have hb109 : rep M98 (pt (Zr.zc GFrame) (0) c98) d110 := rep_eq (rep_whole (k := 7) (by rw [pt_length (by omega)]; exact hl109) (rep_leaf rfl f98 (by omega))) hd109
 generalize hg109 : (pt (Zr.zc GFrame) (0) c98) = cs109 at hb109
 refine WB_one (i := 7) (by kernel_rfl) rfl (O_st (j := 2) (v := .agg c98.toArray) (ws := c98) hS rfl (by kernel_rfl) rfl rfl rfl hw109 (Rep.one f98) (by omega) ?_)
 rw [hg109]
 clear hg109
 intro w108 hS
 replace hS : St w noX M98 [.row uR_94 3 1, .box b101 cs105 48, .box b103 cs109 38, .box b7 cx3 38, .box b5 cx1 48] w108 := hS
 have hR168 : Rd M [.box b7 cx3 38, .box b5 cx1 48] w108 := Rd.of hS hG89 (by simp)
 refine ⟨fun _ => hR168, ?_⟩
 refine WB_done (by kernel_rfl) (nm_then ?_)
 exact ⟨M98, b101, cs105, d106, b103, cs109, d110, hF87, (hS.sel (H' := [.box b103 cs109 38, .box b101 cs105 48, .box b7 cx3 38, .box b5 cx1 48]) [2, 1, 3, 4] (by decide) rfl), hb105, hb101, hb109, hb103, rfl, rfl, hT_1, rfl, rfl, hz⟩
 rintro T10 w8 ⟨M9, b11, cs11, d12, b13, cs13, d14, hx15, hS, hb11, hs11, hb13, hs13, hT10_7, hT10_8, hT10_1, hT10_3, hT10_5, hz⟩
 replace hcx1 := Rep.mono hx15.1 hcx1
 replace hcx3 := Rep.mono hx15.1 hcx3
 replace hE := Mm.ext.trans hE hx15
 rw [nodeTakes_j1] at hz
 refine W_seq <|W_reg ?_
 have ha16 := (rep_root (k := 201) rfl hb11)
 refine WL_y (Y_ldn ta48 hT10_7 (hS.bvB 1 rfl) (Rep.len ha16)) <|WL_y (Y_move (.int .i64 x2) hT10_1) ?_
 have ha17 := (rep_root (k := 7) rfl hb13)
 refine WL_y (Y_ldn ta38 hT10_8 (hS.bvB 0 rfl) (Rep.len ha17)) ?_
 obtain ⟨r20, hr19, hz⟩ := bind_ok hz
 refine WL_c (O_mem (vs := [.agg (sl cs11 (0) 201).toArray, .int .i64 x2, .agg (sl cs13 (0) 7).toArray]) (rv := (fun M' u => ∃ c0 v1, u = .tuple #[.agg c0.toArray, v1, .int .i64 r20.2.2] ∧ rep M' c0 r20.1 ∧ repL M' v1 r20.2.1)) cb17 (args3 rfl rfl rfl) hS (nodeTake_ok hS.agree ha16 ha17 hr19) ?_)
 intro u19 M19 w18 hx19 hu19 hS
 obtain ⟨c19_0, v19_1, hq19, f19_0, f19_1⟩ := hu19
 subst hq19
 replace hcx1 := Rep.mono hx19.1 hcx1
 replace hcx3 := Rep.mono hx19.1 hcx3
 replace hb11 := Rep.mono hx19.1 hb11
 replace hb13 := Rep.mono hx19.1 hb13
 replace ha16 := Rep.mono hx19.1 ha16
 replace ha17 := Rep.mono hx19.1 ha17
 replace hE := Mm.ext.trans hE hx19
 refine WL_y (Y_move (.tuple #[.agg c19_0.toArray, v19_1, .int .i64 r20.2.2]) rfl) <|WL_y (Y_extract (v := .agg c19_0.toArray) rfl rfl) <|WL_y (Y_extract (v := v19_1) rfl rfl) <|WL_y (Y_extract (v := .int .i64 r20.2.2) rfl rfl) ?_
 refine WL_c (O_alloc tz48 hS ?_)
 intro b22 w21 hb22 hS
 replace hS : St w noX M19 [.box b22 (Zr.zc GNode) 48, .box b13 cs13 38, .box b11 cs11 48, .box b7 cx3 38, .box b5 cx1 48] w21 := hS
 have zb22 : rep M19 (Zr.zc GNode) (Zr.zd : GNode) := Zr.zr
 have hw24 : (c19_0 : List Value).length = 201 := Rep.len f19_0
 have hl24 : ((Zr.zc GNode)).length = 201 := Rep.len zb22
 obtain ⟨d25, hd24, hz⟩ := bind_ok hz
 have hb24 : rep M19 (pt (Zr.zc GNode) (0) c19_0) d25 := rep_eq (rep_whole (k := 201) (by rw [pt_length (by omega)]; exact hl24) (rep_leaf rfl f19_0 (by omega))) hd24
 generalize hg24 : (pt (Zr.zc GNode) (0) c19_0) = cs24 at hb24
 refine WL_c (O_st (j := 0) (v := .agg c19_0.toArray) (ws := c19_0) hS rfl (by kernel_rfl) rfl rfl rfl hw24 (Rep.one f19_0) (by omega) ?_)
 rw [hg24]
 clear hg24
 intro w23 hS
 replace hS : St w noX M19 [.box b22 cs24 48, .box b13 cs13 38, .box b11 cs11 48, .box b7 cx3 38, .box b5 cx1 48] w23 := hS
 refine WL_d 2 rfl ?_
 refine WL_nil (nm_then ?_)
 refine W_seq <|W_reg ?_
 have ha26 := (rep_root (k := 201) rfl hcx1)
 refine WL_y (Y_ldn ta48 hT10_3 (hS.bvB 4 rfl) (Rep.len ha26)) <|WL_y (Y_move (.int .i64 x2) hT10_1) ?_
 have ha27 := (rep_root (k := 7) rfl hcx3)
 refine WL_y (Y_ldn ta38 hT10_5 (hS.bvB 3 rfl) (Rep.len ha27)) ?_
 obtain ⟨r30, hr29, hz⟩ := bind_ok hz
 refine WL_c (O_mem (vs := [.agg (sl cx1 (0) 201).toArray, .int .i64 x2, .agg (sl cx3 (0) 7).toArray]) (rv := (fun M' u => ∃ c0 v1, u = .tuple #[.agg c0.toArray, v1, .int .i64 r30.2.2] ∧ rep M' c0 r30.1 ∧ repL M' v1 r30.2.1)) cb18 (args3 rfl rfl rfl) hS (takeFrame_ok hS.agree ha26 ha27 hr29) ?_)
 intro u29 M29 w28 hx29 hu29 hS
 obtain ⟨c29_0, v29_1, hq29, f29_0, f29_1⟩ := hu29
 subst hq29
 replace hcx1 := Rep.mono hx29.1 hcx1
 replace hcx3 := Rep.mono hx29.1 hcx3
 replace hb11 := Rep.mono hx29.1 hb11
 replace hb13 := Rep.mono hx29.1 hb13
 replace f19_1 := repL.mono hx29.1 f19_1
 replace hb24 := Rep.mono hx29.1 hb24
 replace ha26 := Rep.mono hx29.1 ha26
 replace ha27 := Rep.mono hx29.1 ha27
 replace hE := Mm.ext.trans hE hx29
 refine WL_y (Y_move (.tuple #[.agg c29_0.toArray, v29_1, .int .i64 r30.2.2]) rfl) <|WL_y (Y_extract (v := .agg c29_0.toArray) rfl rfl) <|WL_y (Y_extract (v := v29_1) rfl rfl) <|WL_y (Y_extract (v := .int .i64 r30.2.2) rfl rfl) ?_
 refine WL_c (O_alloc tz48 hS ?_)
 intro b32 w31 hb32 hS
 replace hS : St w noX M29 [.box b32 (Zr.zc GNode) 48, .box b22 cs24 48, .box b13 cs13 38, .box b11 cs11 48, .box b7 cx3 38, .box b5 cx1 48] w31 := hS
 have zb32 : rep M29 (Zr.zc GNode) (Zr.zd : GNode) := Zr.zr
 have hw34 : (c29_0 : List Value).length = 201 := Rep.len f29_0
 have hl34 : ((Zr.zc GNode)).length = 201 := Rep.len zb32
 obtain ⟨d35, hd34, hz⟩ := bind_ok hz
 have hb34 : rep M29 (pt (Zr.zc GNode) (0) c29_0) d35 := rep_eq (rep_whole (k := 201) (by rw [pt_length (by omega)]; exact hl34) (rep_leaf rfl f29_0 (by omega))) hd34
 generalize hg34 : (pt (Zr.zc GNode) (0) c29_0) = cs34 at hb34
 refine WL_c (O_st (j := 0) (v := .agg c29_0.toArray) (ws := c29_0) hS rfl (by kernel_rfl) rfl rfl rfl hw34 (Rep.one f29_0) (by omega) ?_)
 rw [hg34]
 clear hg34
 intro w33 hS
 replace hS : St w noX M29 [.box b32 cs34 48, .box b22 cs24 48, .box b13 cs13 38, .box b11 cs11 48, .box b7 cx3 38, .box b5 cx1 48] w33 := hS
 refine WL_d 2 rfl ?_
 refine WL_nil (nm_then ?_)
 refine W_seqJ (fun T' w' => ∃ M37 c39, Mm.ext w.heap.size noX M29 M37 ∧ St w noX M37 [.box b32 cs34 48, .box b22 cs24 48, .box b13 cs13 38, .box b11 cs11 48, .box b7 cx3 38, .box b5 cx1 48] w' ∧ T' 6 = .bool c39 ∧ nodeTakes_j2 c39 = some r) ?_ ?_
 have hF41 := Mm.ext.refl w.heap.size noX M29
 refine W_drawB (Rd M29 [.box b32 cs34 48, .box b22 cs24 48, .box b13 cs13 38, .box b11 cs11 48, .box b7 cx3 38, .box b5 cx1 48]) (inL []) mixed hS fun w42 hS => ?_
 have hG43 := Mm.ext.refl w.heap.size noX M29
 have hR44 : Rd M29 [.box b32 cs34 48, .box b22 cs24 48, .box b13 cs13 38, .box b11 cs11 48, .box b7 cx3 38, .box b5 cx1 48] w42 := Rd.of hS hG43 (by simp)
 have ha45 := (rep_root (k := 201) rfl hb24)
 refine WB_ld (i := 0) rfl (by kernel_rfl) rfl (inL_lt rfl) (by kernel_rfl) (by kernel_rfl) (Y_ldn ta48 rfl (bvR 1 rfl) (Rep.len ha45)) hR44 ?_
 have ha46 := (rep_root (k := 201) rfl hb34)
 refine WB_ld (i := 1) rfl (by kernel_rfl) rfl (inL_lt rfl) (by kernel_rfl) (by kernel_rfl) (Y_ldn ta48 rfl (bvR 0 rfl) (Rep.len ha46)) hR44 ?_
 obtain ⟨r49, hr48, hz⟩ := bind_ok hz
 refine WB_one (i := 2) (by kernel_rfl) rfl (O_val (vs := [.agg (sl cs24 (0) 201).toArray, .agg (sl cs34 (0) 201).toArray]) (v := .bool r49) cb19 (args2 rfl rfl) hS (sameNode_ok hS.agree ha45 ha46 hr48) ?_)
 intro w47 hS
 have hR50 : Rd M29 [.box b32 cs34 48, .box b22 cs24 48, .box b13 cs13 38, .box b11 cs11 48, .box b7 cx3 38, .box b5 cx1 48] w47 := Rd.of hS hG43 (by simp)
 refine ⟨fun _ => hR50, ?_⟩
 refine WB_y (i := 3) rfl (by kernel_rfl) rfl (Y_move (.bool r49) rfl) (fun _ => hR50) ?_
 rcases ic hz with ⟨hc51, hz⟩ | ⟨hc51, hz⟩ <;> rw [hc51]
 refine WB_gy (i := 4) rfl (by kernel_rfl) rfl rfl rfl (Y_move (v19_1) rfl) (fun _ => hR50) <|WB_gy (i := 5) rfl (by kernel_rfl) rfl rfl rfl (Y_move (v29_1) rfl) (fun _ => hR50) ?_
 obtain ⟨r54, hr53, hz⟩ := bind_ok hz
 refine WB_one_g (i := 6) (by kernel_rfl) rfl rfl rfl (O_val (vs := [v19_1, v29_1]) (v := .bool r54) cb20 (args2 rfl rfl) hS (sameFrames_ok hS.agree f19_1 f29_1 hr53) ?_)
 intro w52 hS
 have hR55 : Rd M29 [.box b32 cs34 48, .box b22 cs24 48, .box b13 cs13 38, .box b11 cs11 48, .box b7 cx3 38, .box b5 cx1 48] w52 := Rd.of hS hG43 (by simp)
 refine ⟨fun _ => hR55, ?_⟩
 refine WB_y (i := 7) rfl (by kernel_rfl) rfl (Y_pick_t (.bool r54) rfl rfl) (fun _ => hR55) <|WB_y (i := 8) rfl (by kernel_rfl) rfl (Y_move (.bool r54) rfl) (fun _ => hR55) ?_
 rcases ic hz with ⟨hc56, hz⟩ | ⟨hc56, hz⟩ <;> rw [hc56]
 refine WB_gy (i := 9) rfl (by kernel_rfl) rfl rfl rfl (Y_move (.int .i64 r20.2.2) rfl) (fun _ => hR55) <|WB_gy (i := 10) rfl (by kernel_rfl) rfl rfl rfl (Y_move (.int .i64 r30.2.2) rfl) (fun _ => hR55) <|WB_gy (i := 11) rfl (by kernel_rfl) rfl rfl rfl (Y_eql rfl rfl) (fun _ => hR55) <|WB_y (i := 12) rfl (by kernel_rfl) rfl (Y_pick_t (.bool (r20.2.2 == r30.2.2)) rfl rfl) (fun _ => hR55) <|WB_y (i := 13) rfl (by kernel_rfl) rfl (Y_move (.bool (r20.2.2 == r30.2.2)) rfl) (fun _ => hR55) ?_
 rcases ic hz with ⟨hc57, hz⟩ | ⟨hc57, hz⟩ <;> rw [hc57]
 have ha58 := (rep_root (k := 201) rfl hb11)
 refine WB_gld (i := 14) rfl (by kernel_rfl) rfl (inL_lt rfl) (by kernel_rfl) (by kernel_rfl) rfl rfl (Y_ldn ta48 hT10_7 (bvR 3 rfl) (Rep.len ha58)) hR55 ?_
 have ha59 := (rep_root (k := 201) rfl hcx1)
 refine WB_gld (i := 16) rfl (by kernel_rfl) rfl (inL_lt rfl) (by kernel_rfl) (by kernel_rfl) rfl rfl (Y_ldn ta48 hT10_3 (bvR 5 rfl) (Rep.len ha59)) hR55 ?_
 obtain ⟨r62, hr61, hz⟩ := bind_ok hz
 refine WB_one_g (i := 15) (by kernel_rfl) rfl rfl rfl (O_val (vs := [.agg (sl cs11 (0) 201).toArray]) (v := .bool r62) cb21 (args1 rfl) hS (nodeGood_ok hS.agree ha58 hr61) ?_)
 intro w60 hS
 have hR63 : Rd M29 [.box b32 cs34 48, .box b22 cs24 48, .box b13 cs13 38, .box b11 cs11 48, .box b7 cx3 38, .box b5 cx1 48] w60 := Rd.of hS hG43 (by simp)
 refine ⟨fun _ => hR63, ?_⟩
 obtain ⟨r66, hr65, hz⟩ := bind_ok hz
 refine WB_one_g (i := 17) (by kernel_rfl) rfl rfl rfl (O_val (vs := [.agg (sl cx1 (0) 201).toArray]) (v := .bool r66) cb22 (args1 rfl) hS (isNode_ok hS.agree ha59 hr65) ?_)
 intro w64 hS
 have hR67 : Rd M29 [.box b32 cs34 48, .box b22 cs24 48, .box b13 cs13 38, .box b11 cs11 48, .box b7 cx3 38, .box b5 cx1 48] w64 := Rd.of hS hG43 (by simp)
 refine ⟨fun _ => hR67, ?_⟩
 refine WB_gy (i := 18) rfl (by kernel_rfl) rfl rfl rfl (Y_eqB rfl rfl Try.underlying4) (fun _ => hR67) <|WB_y (i := 19) rfl (by kernel_rfl) rfl (Y_pick_t (.bool (r62 == r66)) rfl rfl) (fun _ => hR67) <|WB_y (i := 20) rfl (by kernel_rfl) rfl (Y_move (.bool (r62 == r66)) rfl) (fun _ => hR67) ?_
 rcases ic hz with ⟨hc68, hz⟩ | ⟨hc68, hz⟩ <;> rw [hc68]
 have ha69 := (rep_root (k := 201) rfl hb11)
 refine WB_gld (i := 21) rfl (by kernel_rfl) rfl (inL_lt rfl) (by kernel_rfl) (by kernel_rfl) rfl rfl (Y_ldn ta48 hT10_7 (bvR 3 rfl) (Rep.len ha69)) hR67 ?_
 have ha70 := (rep_root (k := 201) rfl hcx1)
 refine WB_gld (i := 22) rfl (by kernel_rfl) rfl (inL_lt rfl) (by kernel_rfl) (by kernel_rfl) rfl rfl (Y_ldn ta48 hT10_3 (bvR 5 rfl) (Rep.len ha70)) hR67 ?_
 obtain ⟨r73, hr72, hz⟩ := bind_ok hz
 refine WB_one_g (i := 23) (by kernel_rfl) rfl rfl rfl (O_val (vs := [.agg (sl cs11 (0) 201).toArray, .agg (sl cx1 (0) 201).toArray]) (v := .bool r73) cb19 (args2 rfl rfl) hS (sameNode_ok hS.agree ha69 ha70 hr72) ?_)
 intro w71 hS
 have hR74 : Rd M29 [.box b32 cs34 48, .box b22 cs24 48, .box b13 cs13 38, .box b11 cs11 48, .box b7 cx3 38, .box b5 cx1 48] w71 := Rd.of hS hG43 (by simp)
 refine ⟨fun _ => hR74, ?_⟩
 refine WB_y (i := 24) rfl (by kernel_rfl) rfl (Y_pick_t (.bool r73) rfl rfl) (fun _ => hR74) <|WB_y (i := 25) rfl (by kernel_rfl) rfl (Y_move (.bool r73) rfl) (fun _ => hR74) ?_
 rcases ic hz with ⟨hc75, hz⟩ | ⟨hc75, hz⟩ <;> rw [hc75]
 have ha76 := (rep_root (k := 7) rfl hb13)
 refine WB_gld (i := 26) rfl (by kernel_rfl) rfl (inL_lt rfl) (by kernel_rfl) (by kernel_rfl) rfl rfl (Y_ldn ta38 hT10_8 (bvR 2 rfl) (Rep.len ha76)) hR74 ?_
 have ha77 := (rep_root (k := 7) rfl hcx3)
 refine WB_gld (i := 27) rfl (by kernel_rfl) rfl (inL_lt rfl) (by kernel_rfl) (by kernel_rfl) rfl rfl (Y_ldn ta38 hT10_5 (bvR 4 rfl) (Rep.len ha77)) hR74 ?_
 obtain ⟨r80, hr79, hz⟩ := bind_ok hz
 refine WB_one_g (i := 28) (by kernel_rfl) rfl rfl rfl (O_val (vs := [.agg (sl cs13 (0) 7).toArray, .agg (sl cx3 (0) 7).toArray]) (v := .bool r80) cb23 (args2 rfl rfl) hS (sameFrame_ok hS.agree ha76 ha77 hr79) ?_)
 intro w78 hS
 have hR81 : Rd M29 [.box b32 cs34 48, .box b22 cs24 48, .box b13 cs13 38, .box b11 cs11 48, .box b7 cx3 38, .box b5 cx1 48] w78 := Rd.of hS hG43 (by simp)
 refine ⟨fun _ => hR81, ?_⟩
 refine WB_y (i := 29) rfl (by kernel_rfl) rfl (Y_pick_t (.bool r80) rfl rfl) (fun _ => hR81) <|WB_y (i := 30) rfl (by kernel_rfl) rfl (Y_move (.bool r80) rfl) (fun _ => hR81) ?_
 rcases ic hz with ⟨hc82, hz⟩ | ⟨hc82, hz⟩ <;> rw [hc82]
 obtain ⟨r85, hr84, hz⟩ := bind_ok hz
 refine WB_one_g (i := 31) (by kernel_rfl) rfl rfl rfl (O_val (vs := []) (v := .bool r85) cb24 args0 hS (lawTakes_ok hS.agree hr84) ?_)
 intro w83 hS
 have hR86 : Rd M29 [.box b32 cs34 48, .box b22 cs24 48, .box b13 cs13 38, .box b11 cs11 48, .box b7 cx3 38, .box b5 cx1 48] w83 := Rd.of hS hG43 (by simp)
 refine ⟨fun _ => hR86, ?_⟩
 refine WB_y (i := 32) rfl (by kernel_rfl) rfl (Y_pick_t (.bool r85) rfl rfl) (fun _ => hR86) <|WB_y (i := 33) rfl (by kernel_rfl) rfl (Y_assign (.bool r85) rfl) (fun _ => hR86) ?_
 refine WB_done (by kernel_rfl) (nm_then ?_)
 exact ⟨M29, r85, hF41, hS, rfl, hz⟩
 refine WB_s (i := 31) (j := 30) rfl (by kernel_rfl) rfl rfl rfl rfl (fun _ => hR81) <|WB_y (i := 32) rfl (by kernel_rfl) rfl (Y_pick_f (.bool false) rfl rfl) (fun _ => hR81) <|WB_y (i := 33) rfl (by kernel_rfl) rfl (Y_assign (.bool false) rfl) (fun _ => hR81) ?_
 refine WB_done (by kernel_rfl) (nm_then ?_)
 exact ⟨M29, false, hF41, hS, rfl, hz⟩
 refine WB_s (i := 26) (j := 25) rfl (by kernel_rfl) rfl rfl rfl rfl (fun _ => hR74) <|WB_s (i := 27) (j := 25) rfl (by kernel_rfl) rfl rfl rfl rfl (fun _ => hR74) <|WB_s (i := 28) (j := 25) rfl (by kernel_rfl) rfl rfl rfl rfl (fun _ => hR74) <|WB_y (i := 29) rfl (by kernel_rfl) rfl (Y_pick_f (.bool false) rfl rfl) (fun _ => hR74) <|WB_y (i := 30) rfl (by kernel_rfl) rfl (Y_move (.bool false) rfl) (fun _ => hR74) <|WB_s (i := 31) (j := 30) rfl (by kernel_rfl) rfl rfl rfl rfl (fun _ => hR74) <|WB_y (i := 32) rfl (by kernel_rfl) rfl (Y_pick_f (.bool false) rfl rfl) (fun _ => hR74) <|WB_y (i := 33) rfl (by kernel_rfl) rfl (Y_assign (.bool false) rfl) (fun _ => hR74) ?_
 refine WB_done (by kernel_rfl) (nm_then ?_)
 exact ⟨M29, false, hF41, hS, rfl, hz⟩
 refine WB_s (i := 21) (j := 20) rfl (by kernel_rfl) rfl rfl rfl rfl (fun _ => hR67) <|WB_s (i := 22) (j := 20) rfl (by kernel_rfl) rfl rfl rfl rfl (fun _ => hR67) <|WB_s (i := 23) (j := 20) rfl (by kernel_rfl) rfl rfl rfl rfl (fun _ => hR67) <|WB_y (i := 24) rfl (by kernel_rfl) rfl (Y_pick_f (.bool false) rfl rfl) (fun _ => hR67) <|WB_y (i := 25) rfl (by kernel_rfl) rfl (Y_move (.bool false) rfl) (fun _ => hR67) <|WB_s (i := 26) (j := 25) rfl (by kernel_rfl) rfl rfl rfl rfl (fun _ => hR67) <|WB_s (i := 27) (j := 25) rfl (by kernel_rfl) rfl rfl rfl rfl (fun _ => hR67) <|WB_s (i := 28) (j := 25) rfl (by kernel_rfl) rfl rfl rfl rfl (fun _ => hR67) <|WB_y (i := 29) rfl (by kernel_rfl) rfl (Y_pick_f (.bool false) rfl rfl) (fun _ => hR67) <|WB_y (i := 30) rfl (by kernel_rfl) rfl (Y_move (.bool false) rfl) (fun _ => hR67) <|WB_s (i := 31) (j := 30) rfl (by kernel_rfl) rfl rfl rfl rfl (fun _ => hR67) <|WB_y (i := 32) rfl (by kernel_rfl) rfl (Y_pick_f (.bool false) rfl rfl) (fun _ => hR67) <|WB_y (i := 33) rfl (by kernel_rfl) rfl (Y_assign (.bool false) rfl) (fun _ => hR67) ?_
 refine WB_done (by kernel_rfl) (nm_then ?_)
 exact ⟨M29, false, hF41, hS, rfl, hz⟩
 refine WB_s (i := 14) (j := 13) rfl (by kernel_rfl) rfl rfl rfl rfl (fun _ => hR55) <|WB_s (i := 15) (j := 13) rfl (by kernel_rfl) rfl rfl rfl rfl (fun _ => hR55) <|WB_s (i := 16) (j := 13) rfl (by kernel_rfl) rfl rfl rfl rfl (fun _ => hR55) <|WB_s (i := 17) (j := 13) rfl (by kernel_rfl) rfl rfl rfl rfl (fun _ => hR55) <|WB_s (i := 18) (j := 13) rfl (by kernel_rfl) rfl rfl rfl rfl (fun _ => hR55) <|WB_y (i := 19) rfl (by kernel_rfl) rfl (Y_pick_f (.bool false) rfl rfl) (fun _ => hR55) <|WB_y (i := 20) rfl (by kernel_rfl) rfl (Y_move (.bool false) rfl) (fun _ => hR55) <|WB_s (i := 21) (j := 20) rfl (by kernel_rfl) rfl rfl rfl rfl (fun _ => hR55) <|WB_s (i := 22) (j := 20) rfl (by kernel_rfl) rfl rfl rfl rfl (fun _ => hR55) <|WB_s (i := 23) (j := 20) rfl (by kernel_rfl) rfl rfl rfl rfl (fun _ => hR55) <|WB_y (i := 24) rfl (by kernel_rfl) rfl (Y_pick_f (.bool false) rfl rfl) (fun _ => hR55) <|WB_y (i := 25) rfl (by kernel_rfl) rfl (Y_move (.bool false) rfl) (fun _ => hR55) <|WB_s (i := 26) (j := 25) rfl (by kernel_rfl) rfl rfl rfl rfl (fun _ => hR55) <|WB_s (i := 27) (j := 25) rfl (by kernel_rfl) rfl rfl rfl rfl (fun _ => hR55) <|WB_s (i := 28) (j := 25) rfl (by kernel_rfl) rfl rfl rfl rfl (fun _ => hR55) <|WB_y (i := 29) rfl (by kernel_rfl) rfl (Y_pick_f (.bool false) rfl rfl) (fun _ => hR55) <|WB_y (i := 30) rfl (by kernel_rfl) rfl (Y_move (.bool false) rfl) (fun _ => hR55) <|WB_s (i := 31) (j := 30) rfl (by kernel_rfl) rfl rfl rfl rfl (fun _ => hR55) <|WB_y (i := 32) rfl (by kernel_rfl) rfl (Y_pick_f (.bool false) rfl rfl) (fun _ => hR55) <|WB_y (i := 33) rfl (by kernel_rfl) rfl (Y_assign (.bool false) rfl) (fun _ => hR55) ?_
 refine WB_done (by kernel_rfl) (nm_then ?_)
 exact ⟨M29, false, hF41, hS, rfl, hz⟩
 refine WB_s (i := 9) (j := 8) rfl (by kernel_rfl) rfl rfl rfl rfl (fun _ => hR55) <|WB_s (i := 10) (j := 8) rfl (by kernel_rfl) rfl rfl rfl rfl (fun _ => hR55) <|WB_s (i := 11) (j := 8) rfl (by kernel_rfl) rfl rfl rfl rfl (fun _ => hR55) <|WB_y (i := 12) rfl (by kernel_rfl) rfl (Y_pick_f (.bool false) rfl rfl) (fun _ => hR55) <|WB_y (i := 13) rfl (by kernel_rfl) rfl (Y_move (.bool false) rfl) (fun _ => hR55) <|WB_s (i := 14) (j := 13) rfl (by kernel_rfl) rfl rfl rfl rfl (fun _ => hR55) <|WB_s (i := 15) (j := 13) rfl (by kernel_rfl) rfl rfl rfl rfl (fun _ => hR55) <|WB_s (i := 16) (j := 13) rfl (by kernel_rfl) rfl rfl rfl rfl (fun _ => hR55) <|WB_s (i := 17) (j := 13) rfl (by kernel_rfl) rfl rfl rfl rfl (fun _ => hR55) <|WB_s (i := 18) (j := 13) rfl (by kernel_rfl) rfl rfl rfl rfl (fun _ => hR55) <|WB_y (i := 19) rfl (by kernel_rfl) rfl (Y_pick_f (.bool false) rfl rfl) (fun _ => hR55) <|WB_y (i := 20) rfl (by kernel_rfl) rfl (Y_move (.bool false) rfl) (fun _ => hR55) <|WB_s (i := 21) (j := 20) rfl (by kernel_rfl) rfl rfl rfl rfl (fun _ => hR55) <|WB_s (i := 22) (j := 20) rfl (by kernel_rfl) rfl rfl rfl rfl (fun _ => hR55) <|WB_s (i := 23) (j := 20) rfl (by kernel_rfl) rfl rfl rfl rfl (fun _ => hR55) <|WB_y (i := 24) rfl (by kernel_rfl) rfl (Y_pick_f (.bool false) rfl rfl) (fun _ => hR55) <|WB_y (i := 25) rfl (by kernel_rfl) rfl (Y_move (.bool false) rfl) (fun _ => hR55) <|WB_s (i := 26) (j := 25) rfl (by kernel_rfl) rfl rfl rfl rfl (fun _ => hR55) <|WB_s (i := 27) (j := 25) rfl (by kernel_rfl) rfl rfl rfl rfl (fun _ => hR55) <|WB_s (i := 28) (j := 25) rfl (by kernel_rfl) rfl rfl rfl rfl (fun _ => hR55) <|WB_y (i := 29) rfl (by kernel_rfl) rfl (Y_pick_f (.bool false) rfl rfl) (fun _ => hR55) <|WB_y (i := 30) rfl (by kernel_rfl) rfl (Y_move (.bool false) rfl) (fun _ => hR55) <|WB_s (i := 31) (j := 30) rfl (by kernel_rfl) rfl rfl rfl rfl (fun _ => hR55) <|WB_y (i := 32) rfl (by kernel_rfl) rfl (Y_pick_f (.bool false) rfl rfl) (fun _ => hR55) <|WB_y (i := 33) rfl (by kernel_rfl) rfl (Y_assign (.bool false) rfl) (fun _ => hR55) ?_
 refine WB_done (by kernel_rfl) (nm_then ?_)
 exact ⟨M29, false, hF41, hS, rfl, hz⟩
 refine WB_s (i := 4) (j := 3) rfl (by kernel_rfl) rfl rfl rfl rfl (fun _ => hR50) <|WB_s (i := 5) (j := 3) rfl (by kernel_rfl) rfl rfl rfl rfl (fun _ => hR50) <|WB_s (i := 6) (j := 3) rfl (by kernel_rfl) rfl rfl rfl rfl (fun _ => hR50) <|WB_y (i := 7) rfl (by kernel_rfl) rfl (Y_pick_f (.bool false) rfl rfl) (fun _ => hR50) <|WB_y (i := 8) rfl (by kernel_rfl) rfl (Y_move (.bool false) rfl) (fun _ => hR50) <|WB_s (i := 9) (j := 8) rfl (by kernel_rfl) rfl rfl rfl rfl (fun _ => hR50) <|WB_s (i := 10) (j := 8) rfl (by kernel_rfl) rfl rfl rfl rfl (fun _ => hR50) <|WB_s (i := 11) (j := 8) rfl (by kernel_rfl) rfl rfl rfl rfl (fun _ => hR50) <|WB_y (i := 12) rfl (by kernel_rfl) rfl (Y_pick_f (.bool false) rfl rfl) (fun _ => hR50) <|WB_y (i := 13) rfl (by kernel_rfl) rfl (Y_move (.bool false) rfl) (fun _ => hR50) <|WB_s (i := 14) (j := 13) rfl (by kernel_rfl) rfl rfl rfl rfl (fun _ => hR50) <|WB_s (i := 15) (j := 13) rfl (by kernel_rfl) rfl rfl rfl rfl (fun _ => hR50) <|WB_s (i := 16) (j := 13) rfl (by kernel_rfl) rfl rfl rfl rfl (fun _ => hR50) <|WB_s (i := 17) (j := 13) rfl (by kernel_rfl) rfl rfl rfl rfl (fun _ => hR50) <|WB_s (i := 18) (j := 13) rfl (by kernel_rfl) rfl rfl rfl rfl (fun _ => hR50) <|WB_y (i := 19) rfl (by kernel_rfl) rfl (Y_pick_f (.bool false) rfl rfl) (fun _ => hR50) <|WB_y (i := 20) rfl (by kernel_rfl) rfl (Y_move (.bool false) rfl) (fun _ => hR50) <|WB_s (i := 21) (j := 20) rfl (by kernel_rfl) rfl rfl rfl rfl (fun _ => hR50) <|WB_s (i := 22) (j := 20) rfl (by kernel_rfl) rfl rfl rfl rfl (fun _ => hR50) <|WB_s (i := 23) (j := 20) rfl (by kernel_rfl) rfl rfl rfl rfl (fun _ => hR50) <|WB_y (i := 24) rfl (by kernel_rfl) rfl (Y_pick_f (.bool false) rfl rfl) (fun _ => hR50) <|WB_y (i := 25) rfl (by kernel_rfl) rfl (Y_move (.bool false) rfl) (fun _ => hR50) <|WB_s (i := 26) (j := 25) rfl (by kernel_rfl) rfl rfl rfl rfl (fun _ => hR50) <|WB_s (i := 27) (j := 25) rfl (by kernel_rfl) rfl rfl rfl rfl (fun _ => hR50) <|WB_s (i := 28) (j := 25) rfl (by kernel_rfl) rfl rfl rfl rfl (fun _ => hR50) <|WB_y (i := 29) rfl (by kernel_rfl) rfl (Y_pick_f (.bool false) rfl rfl) (fun _ => hR50) <|WB_y (i := 30) rfl (by kernel_rfl) rfl (Y_move (.bool false) rfl) (fun _ => hR50) <|WB_s (i := 31) (j := 30) rfl (by kernel_rfl) rfl rfl rfl rfl (fun _ => hR50) <|WB_y (i := 32) rfl (by kernel_rfl) rfl (Y_pick_f (.bool false) rfl rfl) (fun _ => hR50) <|WB_y (i := 33) rfl (by kernel_rfl) rfl (Y_assign (.bool false) rfl) (fun _ => hR50) ?_
 refine WB_done (by kernel_rfl) (nm_then ?_)
 exact ⟨M29, false, hF41, hS, rfl, hz⟩
 rintro T38 w36 ⟨M37, c39, hx40, hS, hT38_6, hz⟩
 replace hcx1 := Rep.mono hx40.1 hcx1
 replace hcx3 := Rep.mono hx40.1 hcx3
 replace hb11 := Rep.mono hx40.1 hb11
 replace hb13 := Rep.mono hx40.1 hb13
 replace hb24 := Rep.mono hx40.1 hb24
 replace hb34 := Rep.mono hx40.1 hb34
 replace hE := Mm.ext.trans hE hx40
 rw [nodeTakes_j2] at hz
 cases hz
 exact W_ret (R_t1 rfl hT38_6 ⟨rfl, (St.dropB (St.dropB (St.dropB (St.dropB (St.dropB (St.dropB hS hb32) hb22) hs13) hs11) hb7) hb5).kept⟩)
end Go.Proofs.Ytopgdemmdcipcaa
namespace Go.Proofs.Ytopgdemmdcipcaa
inductive Path (E : Nat → Nat → Prop) : Nat → Nat → Prop where
  | refl (a : Nat) : Path E a a
  | tail {a b c : Nat} : Path E a b → E b c → Path E a c
section
variable {E : Nat → Nat → Prop}
theorem Path.trans {a b c : Nat} (h : Path E a b) (k : Path E b c) : Path E a c := by
  induction k with
  | refl => exact h
  | tail _ e ih => exact .tail ih e
theorem Path.one {a b : Nat} (h : E a b) : Path E a b := .tail (.refl a) h
theorem Path.head {a b c : Nat} (h : E a b) (k : Path E b c) : Path E a c := (Path.one h).trans k
theorem Path.closed {S : Nat → Prop} (hS : ∀ a b, S a → E a b → S b) {a b : Nat} (h : Path E a b) (ha : S a) : S b := by
  induction h with
  | refl => exact ha
  | tail _ e ih => exact hS _ _ ih e
structure Srch where
  mark : Nat → Nat
  low : Nat → Nat
  ring : Nat → Nat
  stack : List Nat
  next : Nat
def updN {α : Type} (f : Nat → α) (i : Nat) (x : α) : Nat → α := fun k => if k = i then x else f k
theorem updN_same {α : Type} (f : Nat → α) (i : Nat) (x : α) : updN f i x i = x := by simp [updN]
theorem updN_other {α : Type} (f : Nat → α) {i k : Nat} (x : α) (h : k ≠ i) : updN f i x k = f k := by simp [updN, h]
def Least (E : Nat → Nat → Prop) (v r : Nat) : Prop := Path E v r ∧ Path E r v ∧ ∀ w, Path E v w → Path E w v → r ≤ w
def wh (f : Nat → Nat) : Nat := (List.range 32).countP (fun i => f i == 0)
theorem countP_turn {p q : Nat → Bool} {n : Nat} (hp : p n = true) (hq : q n = false) (ho : ∀ k, k ≠ n → p k = q k) : ∀ (l : List Nat), l.Nodup → n ∈ l → l.countP p = l.countP q + 1 := by
  have hsame : ∀ (l : List Nat), n ∉ l → l.countP p = l.countP q := by
    intro l
    induction l with
    | nil => intro _; rfl
    | cons a t ih =>
      intro hn
      simp only [List.mem_cons, not_or] at hn
      rw [List.countP_cons, List.countP_cons, ih hn.2, ho a (fun e => hn.1 e.symm)]
  intro l
  induction l with
  | nil => intro _ h; cases h
  | cons a t ih =>
    intro hnd hm
    rw [List.nodup_cons] at hnd
    rw [List.countP_cons, List.countP_cons]
    by_cases e : a = n
    · subst e
      rw [hsame t hnd.1, hp, hq]
      simp
    · have hmt : n ∈ t := by
        rcases List.mem_cons.1 hm with h | h
        · exact absurd h.symm e
        · exact h
      rw [ih hnd.2 hmt, ho a e]
      omega
theorem countP_le {p q : Nat → Bool} (h : ∀ k, p k = true → q k = true) (l : List Nat) : l.countP p ≤ l.countP q := by
  induction l with
  | nil => exact Nat.le_refl _
  | cons a t ih =>
    rw [List.countP_cons, List.countP_cons]
    cases hp : p a with
    | false => simp; omega
    | true => rw [h a hp]; simp; omega
theorem wh_updN {f : Nat → Nat} {n x : Nat} (hn : n < 32) (h0 : f n = 0) (hx : 0 < x) : wh f = wh (updN f n x) + 1 := by
  unfold wh
  refine countP_turn (n := n) (by simp [h0]) ?_ (fun k hk => by rw [updN_other _ _ hk]) _ List.nodup_range (List.mem_range.2 hn)
  rw [updN_same]
  simp
  omega
theorem wh_mono {f f' : Nat → Nat} (h : ∀ v, 0 < f v → 0 < f' v) : wh f' ≤ wh f := by
  unfold wh
  refine countP_le (fun k hk => ?_) _
  have hk' : f' k = 0 := by simpa using hk
  have : f k = 0 := by
    rcases Nat.eq_zero_or_pos (f k) with h0 | h0
    · exact h0
    · have := h k h0; omega
  simp [this]
structure Inv (E : Nat → Nat → Prop) (s : Srch) (G : List Nat) : Prop where
  lt : ∀ v, 0 < s.mark v → v < 32
  le : ∀ v, s.mark v ≤ s.next
  inj : ∀ u v, s.mark u = s.mark v → 0 < s.mark u → u = v
  cnt : s.next + wh s.mark ≤ 32
  sorted : s.stack.Pairwise (fun a b => s.mark a < s.mark b)
  pos : ∀ v ∈ s.stack, 0 < s.mark v
  gray : ∀ g ∈ G, g ∈ s.stack
  black : ∀ v w, 0 < s.mark v → v ∉ G → E v w → 0 < s.mark w
  done : ∀ v w, 0 < s.mark v → v ∉ s.stack → E v w → w ∉ s.stack
  ring : ∀ v, 0 < s.mark v → v ∉ s.stack → Least E v (s.ring v)
  reach : ∀ x ∈ G, ∀ y ∈ s.stack, s.mark x ≤ s.mark y → Path E x y
  back : ∀ y ∈ s.stack, ∃ x ∈ G, s.mark x ≤ s.mark y ∧ Path E y x
structure Ext (E : Nat → Nat → Prop) (s s' : Srch) (n : Nat) : Prop where
  mark_old : ∀ v, 0 < s.mark v → s'.mark v = s.mark v
  low_old : ∀ v, 0 < s.mark v → s'.low v = s.low v
  fresh : ∀ v, s.mark v = 0 → 0 < s'.mark v → s.next < s'.mark v ∧ Path E n v
  next : s.next ≤ s'.next
structure Post (E : Nat → Nat → Prop) (s s' : Srch) (n : Nat) (G : List Nat) : Prop where
  inv : Inv E s' G
  ext : Ext E s s' n
  mine : 0 < s'.mark n
  low_le : s'.low n ≤ s'.mark n
  low_or : s'.low n = s'.mark n ∨ ∃ z ∈ s.stack, s'.mark z = s'.low n ∧ Path E n z
  stack : ∃ new, s'.stack = s.stack ++ new ∧ ∀ y ∈ new, ∀ z ∈ s.stack, E y z → s'.low n ≤ s'.mark z
structure LI (E : Nat → Nat → Prop) (s : Srch) (G : List Nat) (n : Nat) (t : Srch) (ds : Nat → Prop) : Prop where
  was : Inv E s G
  white : s.mark n = 0
  inv : Inv E t (n :: G)
  ext : Ext E s t n
  nmark : t.mark n = s.next + 1
  low_le : t.low n ≤ t.mark n
  low_or : t.low n = t.mark n ∨ ∃ z ∈ s.stack, t.mark z = t.low n ∧ Path E n z
  stack : ∃ new, t.stack = s.stack ++ n :: new ∧ ∀ y ∈ new, ∀ z ∈ s.stack, E y z → t.low n ≤ t.mark z
  proc : ∀ d, ds d → 0 < t.mark d ∧ (d ∈ s.stack → t.low n ≤ t.mark d)
def startT (s : Srch) (n : Nat) : Srch := { mark := updN s.mark n (s.next + 1), low := updN s.low n (s.next + 1), ring := s.ring, stack := s.stack ++ [n], next := s.next + 1 }
theorem LI.start {s : Srch} {G : List Nat} {n : Nat} (h : Inv E s G) (hn : n < 32) (h0 : s.mark n = 0) (hG : ∀ g ∈ G, Path E g n) : LI E s G n (startT s n) (fun _ => False) := by
  have hns : n ∉ s.stack := fun hm => by have := h.pos n hm; omega
  have hmk : ∀ v, v ≠ n → (startT s n).mark v = s.mark v := fun v hv => updN_other _ _ hv
  have hmn : (startT s n).mark n = s.next + 1 := updN_same _ _ _
  have hne : ∀ v, 0 < s.mark v → v ≠ n := fun v hv e => by subst e; omega
  have hst : (startT s n).stack = s.stack ++ [n] := rfl
  refine ⟨h, h0, ⟨fun v hv => ?_, fun v => ?_, fun u v huv hu => ?_, ?_, ?_, fun v hv => ?_, fun g hg => ?_, fun v w hv hg he => ?_, fun v w hv hs he => ?_, fun v hv hs => ?_, fun x hx y hy hxy => ?_, fun y hy => ?_⟩, ⟨fun v hv => hmk v (hne v hv), fun v hv => updN_other _ _ (hne v hv), fun v hv hv' => ?_, Nat.le_succ _⟩, hmn, ?_, .inl ?_, ⟨[], rfl, by simp⟩, fun d hd => hd.elim⟩
  · by_cases e : v = n
    · subst e; exact hn
    · rw [hmk v e] at hv; exact h.lt v hv
  · show _ ≤ s.next + 1
    by_cases e : v = n
    · subst e; rw [hmn]; exact Nat.le_refl _
    · rw [hmk v e]; have := h.le v; omega
  · by_cases e1 : u = n
    · by_cases e2 : v = n
      · rw [e1, e2]
      · subst e1; rw [hmn, hmk v e2] at huv; have := h.le v; omega
    · by_cases e2 : v = n
      · subst e2; rw [hmn, hmk u e1] at huv; have := h.le u; omega
      · rw [hmk u e1, hmk v e2] at huv; rw [hmk u e1] at hu; exact h.inj u v huv hu
  · have := wh_updN (x := s.next + 1) hn h0 (by omega)
    have hc := h.cnt
    show s.next + 1 + wh (updN s.mark n (s.next + 1)) ≤ 32
    omega
  · rw [hst, List.pairwise_append]
    refine ⟨?_, List.pairwise_singleton _ _, fun a ha b hb => ?_⟩
    · refine List.Pairwise.imp_of_mem (fun {a b} ha hb hab => ?_) h.sorted
      rw [hmk a (fun e => hns (e ▸ ha)), hmk b (fun e => hns (e ▸ hb))]
      exact hab
    · rw [List.mem_singleton] at hb
      subst hb
      rw [hmn, hmk a (fun e => hns (e ▸ ha))]
      have := h.le a; omega
  · rw [hst, List.mem_append, List.mem_singleton] at hv
    rcases hv with hv | rfl
    · have := h.pos v hv
      rw [hmk v (hne v this)]; exact this
    · rw [hmn]; omega
  · rw [hst, List.mem_append, List.mem_singleton]
    rcases List.mem_cons.1 hg with rfl | hg
    · exact .inr rfl
    · exact .inl (h.gray g hg)
  · simp only [List.mem_cons, not_or] at hg
    rw [hmk v hg.1] at hv
    have := h.black v w hv hg.2 he
    rw [hmk w (hne w this)]; exact this
  · rw [hst, List.mem_append, List.mem_singleton, not_or] at hs
    rw [hmk v hs.2] at hv
    rw [hst, List.mem_append, List.mem_singleton, not_or]
    refine ⟨h.done v w hv hs.1 he, fun e => ?_⟩
    subst e
    have hvG : v ∉ G := fun hg => hs.1 (h.gray v hg)
    have := h.black v w hv hvG he
    omega
  · rw [hst, List.mem_append, List.mem_singleton, not_or] at hs
    rw [hmk v hs.2] at hv
    exact h.ring v hv hs.1
  · rw [hst, List.mem_append, List.mem_singleton] at hy
    rcases List.mem_cons.1 hx with rfl | hx2
    · rcases hy with hy | rfl
      · have hp := h.pos y hy
        rw [hmn, hmk y (hne y hp)] at hxy
        have := h.le y; omega
      · exact .refl _
    · rcases hy with hy | rfl
      · have hp := h.pos y hy
        have hpx := h.pos x (h.gray x hx2)
        rw [hmk x (hne x hpx), hmk y (hne y hp)] at hxy
        exact h.reach x hx2 y hy hxy
      · exact hG x hx2
  · rw [hst, List.mem_append, List.mem_singleton] at hy
    rcases hy with hy | rfl
    · obtain ⟨x, hx, hxy, hp⟩ := h.back y hy
      have hpx := h.pos x (h.gray x hx)
      refine ⟨x, List.mem_cons_of_mem _ hx, ?_, hp⟩
      rw [hmk x (hne x hpx), hmk y (hne y (h.pos y hy))]
      exact hxy
    · exact ⟨y, List.mem_cons_self, Nat.le_refl _, .refl _⟩
  · by_cases e : v = n
    · subst e; rw [hmn]; exact ⟨by omega, .refl _⟩
    · rw [hmk v e] at hv'; omega
  · rw [hmn]; show updN s.low n (s.next + 1) n ≤ _; rw [updN_same]; exact Nat.le_refl _
  · rw [hmn]; exact updN_same _ _ _
theorem Inv.low {s : Srch} {G : List Nat} (h : Inv E s G) (l : Nat → Nat) : Inv E { s with low := l } G :=
  ⟨h.lt, h.le, h.inj, h.cnt, h.sorted, h.pos, h.gray, h.black, h.done, h.ring, h.reach, h.back⟩
section
variable {s t : Srch} {G : List Nat} {n : Nat} {ds : Nat → Prop}
theorem LI.old (h : LI E s G n t ds) {z : Nat} (hz : z ∈ s.stack) : 0 < s.mark z ∧ t.mark z = s.mark z ∧ t.mark z < t.mark n := by
  have h1 := h.was.pos z hz
  have h2 := h.ext.mark_old z h1
  have h3 := h.was.le z
  refine ⟨h1, h2, ?_⟩
  rw [h2, h.nmark]
  omega
theorem LI.new (h : LI E s G n t ds) {new : List Nat} (hst : t.stack = s.stack ++ n :: new) {y : Nat} (hy : y ∈ n :: new) : t.mark n ≤ t.mark y := by
  have h1 := h.inv.sorted
  rw [hst, List.pairwise_append] at h1
  rcases List.mem_cons.1 hy with rfl | hy
  · exact Nat.le_refl _
  · exact Nat.le_of_lt ((List.pairwise_cons.1 h1.2.1).1 y hy)
theorem LI.visit {t' : Srch} {d : Nat} (h : LI E s G n t ds) (hd0 : t.mark d = 0) (he : E n d) (hp : Post E t t' d (n :: G)) :
    LI E s G n { t' with low := updN t'.low n (min (t'.low n) (t'.low d)) } (fun x => ds x ∨ x = d) := by
  have hn0 : 0 < t.mark n := by rw [h.nmark]; omega
  have hmn : t'.mark n = t.mark n := hp.ext.mark_old n hn0
  have hln : t'.low n = t.low n := hp.ext.low_old n hn0
  have hmd := hp.ext.fresh d hd0 hp.mine
  have hnn : t.mark n ≤ t.next := h.inv.le n
  obtain ⟨new, hst, hnew⟩ := h.stack
  obtain ⟨newd, hst', hnew'⟩ := hp.stack
  have hlow2 : (updN t'.low n (min (t'.low n) (t'.low d))) n = min (t.low n) (t'.low d) := by rw [updN_same, hln]
  refine ⟨h.was, h.white, hp.inv.low _, ⟨fun v hv => ?_, fun v hv => ?_, fun v hv hv' => ?_, Nat.le_trans h.ext.next hp.ext.next⟩, by rw [← h.nmark]; exact hmn, ?_, ?_, ⟨new ++ newd, ?_, fun y hy z hz hyz => ?_⟩, fun x hx => ?_⟩
  · have h1 := h.ext.mark_old v hv
    rw [hp.ext.mark_old v (by omega)]; exact h1
  · have h1 := h.ext.mark_old v hv
    have hvn : v ≠ n := fun e => by subst e; rw [h.white] at hv; omega
    show updN t'.low n _ v = _
    rw [updN_other _ _ hvn, hp.ext.low_old v (by omega)]
    exact h.ext.low_old v hv
  · rcases Nat.eq_zero_or_pos (t.mark v) with h0 | h0
    · have h1 := hp.ext.fresh v h0 hv'
      have h2 := h.ext.next
      exact ⟨by show s.next < t'.mark v; omega, Path.head he h1.2⟩
    · have h1 := hp.ext.mark_old v h0
      have h2 := h.ext.fresh v hv h0
      exact ⟨by show s.next < t'.mark v; rw [h1]; exact h2.1, h2.2⟩
  · show updN t'.low n _ n ≤ t'.mark n
    rw [hlow2, hmn]
    exact Nat.le_trans (Nat.min_le_left _ _) h.low_le
  · show updN t'.low n _ n = t'.mark n ∨ ∃ z ∈ s.stack, t'.mark z = updN t'.low n _ n ∧ Path E n z
    rw [hlow2, hmn]
    by_cases hle : t.low n ≤ t'.low d
    · rw [Nat.min_eq_left hle]
      rcases h.low_or with h1 | ⟨z, hz, h1, h2⟩
      · exact .inl h1
      · have h3 := h.old hz
        exact .inr ⟨z, hz, by rw [hp.ext.mark_old z (by omega)]; exact h1, h2⟩
    · rw [Nat.min_eq_right (by omega)]
      have hll := h.low_le
      rcases hp.low_or with h1 | ⟨z, hz, h1, h2⟩
      · omega
      · refine .inr ⟨z, ?_, h1, Path.head he h2⟩
        have hz' := hz
        rw [hst] at hz'
        rcases List.mem_append.1 hz' with h3 | h3
        · exact h3
        · have h4 := h.new hst h3
          have h5 := hp.ext.mark_old z (h.inv.pos z hz)
          omega
  · show t'.stack = _
    rw [hst', hst]
    simp
  · show updN t'.low n _ n ≤ t'.mark z
    rw [hlow2]
    have h3 := h.old hz
    have h4 := hp.ext.mark_old z (by omega)
    rcases List.mem_append.1 hy with hy | hy
    · have := hnew y hy z hz hyz
      rw [h4]
      exact Nat.le_trans (Nat.min_le_left _ _) this
    · have := hnew' y hy z (by rw [hst]; exact List.mem_append_left _ hz) hyz
      exact Nat.le_trans (Nat.min_le_right _ _) this
  · show 0 < t'.mark x ∧ (x ∈ s.stack → updN t'.low n _ n ≤ t'.mark x)
    rw [hlow2]
    rcases hx with hx | rfl
    · have h1 := h.proc x hx
      have h2 := hp.ext.mark_old x h1.1
      rw [h2]
      exact ⟨h1.1, fun hs => Nat.le_trans (Nat.min_le_left _ _) (h1.2 hs)⟩
    · exact ⟨hp.mine, fun hs => by have := h.old hs; omega⟩
theorem LI.on {d : Nat} (h : LI E s G n t ds) (hd : d ∈ t.stack) (he : E n d) :
    LI E s G n { t with low := updN t.low n (min (t.low n) (t.mark d)) } (fun x => ds x ∨ x = d) := by
  obtain ⟨new, hst, hnew⟩ := h.stack
  have hlow2 : (updN t.low n (min (t.low n) (t.mark d))) n = min (t.low n) (t.mark d) := updN_same _ _ _
  refine ⟨h.was, h.white, h.inv.low _, ⟨h.ext.mark_old, fun v hv => ?_, h.ext.fresh, h.ext.next⟩, h.nmark, ?_, ?_, ⟨new, hst, fun y hy z hz hyz => ?_⟩, fun x hx => ?_⟩
  · have hvn : v ≠ n := fun e => by subst e; rw [h.white] at hv; omega
    show updN t.low n _ v = _
    rw [updN_other _ _ hvn]
    exact h.ext.low_old v hv
  · show updN t.low n _ n ≤ t.mark n
    rw [hlow2]
    exact Nat.le_trans (Nat.min_le_left _ _) h.low_le
  · show updN t.low n _ n = t.mark n ∨ ∃ z ∈ s.stack, t.mark z = updN t.low n _ n ∧ Path E n z
    rw [hlow2]
    by_cases hle : t.low n ≤ t.mark d
    · rw [Nat.min_eq_left hle]; exact h.low_or
    · rw [Nat.min_eq_right (by omega)]
      have hll := h.low_le
      refine .inr ⟨d, ?_, rfl, Path.one he⟩
      have hd' := hd
      rw [hst] at hd'
      rcases List.mem_append.1 hd' with h3 | h3
      · exact h3
      · have h4 := h.new hst h3
        omega
  · show updN t.low n _ n ≤ t.mark z
    rw [hlow2]
    exact Nat.le_trans (Nat.min_le_left _ _) (hnew y hy z hz hyz)
  · show 0 < t.mark x ∧ (x ∈ s.stack → updN t.low n _ n ≤ t.mark x)
    rw [hlow2]
    rcases hx with hx | rfl
    · have h1 := h.proc x hx
      exact ⟨h1.1, fun hs => Nat.le_trans (Nat.min_le_left _ _) (h1.2 hs)⟩
    · exact ⟨h.inv.pos x hd, fun _ => Nat.min_le_right _ _⟩
theorem LI.skip {d : Nat} (h : LI E s G n t ds) (hm : 0 < t.mark d) (hd : d ∉ t.stack) : LI E s G n t (fun x => ds x ∨ x = d) := by
  obtain ⟨new, hst, hnew⟩ := h.stack
  refine ⟨h.was, h.white, h.inv, h.ext, h.nmark, h.low_le, h.low_or, h.stack, fun x hx => ?_⟩
  rcases hx with hx | rfl
  · exact h.proc x hx
  · exact ⟨hm, fun hs => absurd (by rw [hst]; exact List.mem_append_left _ hs) hd⟩
theorem LI.keep (h : LI E s G n t ds) (hall : ∀ d, E n d → ds d) (hlow : t.low n ≠ t.mark n) : Post E s t n G := by
  obtain ⟨new, hst, hnew⟩ := h.stack
  have hlt : t.low n < t.mark n := Nat.lt_of_le_of_ne h.low_le hlow
  obtain ⟨z, hz, hm, hp⟩ : ∃ z ∈ s.stack, t.mark z = t.low n ∧ Path E n z := by
    rcases h.low_or with h1 | h1
    · exact absurd h1 hlow
    · exact h1
  refine ⟨⟨h.inv.lt, h.inv.le, h.inv.inj, h.inv.cnt, h.inv.sorted, h.inv.pos, fun g hg => h.inv.gray g (List.mem_cons_of_mem _ hg), fun v w hv hg hvw => ?_, h.inv.done, h.inv.ring, fun x hx => h.inv.reach x (List.mem_cons_of_mem _ hx), fun y hy => ?_⟩, h.ext, by rw [h.nmark]; omega, h.low_le, h.low_or, ⟨n :: new, hst, fun y hy z hz hyz => ?_⟩⟩
  · by_cases e : v = n
    · subst e; exact (h.proc w (hall w hvw)).1
    · exact h.inv.black v w hv (by simp only [List.mem_cons, not_or]; exact ⟨e, hg⟩) hvw
  · obtain ⟨x, hx, hxy, p⟩ := h.inv.back y hy
    rcases List.mem_cons.1 hx with rfl | hx
    · obtain ⟨x', hx', hxz, p'⟩ := h.was.back z hz
      have h1 := h.old hz
      have h2 := h.old (h.was.gray x' hx')
      exact ⟨x', hx', by omega, (p.trans hp).trans p'⟩
    · exact ⟨x, hx, hxy, p⟩
  · rcases List.mem_cons.1 hy with rfl | hy
    · exact (h.proc z (hall z hyz)).2 hz
    · exact hnew y hy z hz hyz
theorem LI.pop (h : LI E s G n t ds) (hall : ∀ d, E n d → ds d) (hlow : t.low n = t.mark n) {new : List Nat} (hst : t.stack = s.stack ++ n :: new) {r : Nat} {ring' : Nat → Nat} (hr1 : ∀ v ∈ n :: new, ring' v = r)
    (hr2 : ∀ v, v ∉ n :: new → ring' v = t.ring v) (hmem : r ∈ n :: new) (hmin : ∀ v ∈ n :: new, r ≤ v) : Post E s { t with ring := ring', stack := s.stack } n G := by
  obtain ⟨new2, hst2, hnew⟩ := h.stack
  have e2 : new2 = new := by
    rw [hst] at hst2
    have := List.append_cancel_left hst2
    simp only [List.cons.injEq, true_and] at this
    exact this.symm
  subst e2
  have hC : ∀ y ∈ n :: new2, y ∈ t.stack := fun y hy => by rw [hst]; exact List.mem_append_right _ hy
  have hCn : ∀ y ∈ n :: new2, t.mark n ≤ t.mark y := fun y hy => h.new hst hy
  have hS : ∀ y ∈ s.stack, y ∈ t.stack := fun y hy => by rw [hst]; exact List.mem_append_left _ hy
  have hdis : ∀ y ∈ n :: new2, y ∉ s.stack := fun y hy hs => by have := hCn y hy; have := h.old hs; omega
  have hfrom : ∀ y ∈ n :: new2, Path E n y := fun y hy => h.inv.reach n List.mem_cons_self y (hC y hy) (hCn y hy)
  have hto : ∀ y ∈ n :: new2, Path E y n := fun y hy => by
    obtain ⟨x, hx, hxy, p⟩ := h.inv.back y (hC y hy)
    refine p.trans (h.inv.reach x hx n (hC n List.mem_cons_self) ?_)
    rcases List.mem_cons.1 hx with rfl | hx
    · exact Nat.le_refl _
    · have := h.old (h.was.gray x hx); omega
  have hout : ∀ y ∈ n :: new2, ∀ w, E y w → 0 < t.mark w ∧ (w ∈ n :: new2 ∨ w ∉ t.stack) := by
    intro y hy w hyw
    have hw0 : 0 < t.mark w := by
      rcases List.mem_cons.1 hy with rfl | hy'
      · exact (h.proc w (hall w hyw)).1
      · refine h.inv.black y w (h.inv.pos y (hC y hy)) ?_ hyw
        simp only [List.mem_cons, not_or]
        refine ⟨fun e => ?_, fun hg => hdis y hy (h.was.gray y hg)⟩
        subst e
        have h1 := h.inv.sorted
        rw [hst, List.pairwise_append] at h1
        exact absurd ((List.pairwise_cons.1 h1.2.1).1 y hy') (Nat.lt_irrefl _)
    refine ⟨hw0, ?_⟩
    by_cases hws : w ∈ t.stack
    · left
      have hws' := hws
      rw [hst] at hws'
      rcases List.mem_append.1 hws' with h3 | h3
      · have h4 := h.old h3
        have h5 : t.low n ≤ t.mark w := by
          rcases List.mem_cons.1 hy with rfl | hy'
          · exact (h.proc w (hall w hyw)).2 h3
          · exact hnew y hy' w h3 hyw
        omega
      · exact h3
    · exact .inr hws
  have hdone : ∀ a b, (0 < t.mark a ∧ a ∉ t.stack) → E a b → (0 < t.mark b ∧ b ∉ t.stack) := fun a b ⟨h1, h2⟩ hab =>
    ⟨h.inv.black a b h1 (fun hg => h2 (h.inv.gray a hg)) hab, h.inv.done a b h1 h2 hab⟩
  have hclosed : ∀ a b, (0 < t.mark a ∧ (a ∈ n :: new2 ∨ a ∉ t.stack)) → E a b → (0 < t.mark b ∧ (b ∈ n :: new2 ∨ b ∉ t.stack)) := by
    rintro a b ⟨h1, h2 | h2⟩ hab
    · exact hout a h2 b hab
    · have := hdone a b ⟨h1, h2⟩ hab
      exact ⟨this.1, .inr this.2⟩
  have hnot : ∀ v, v ∉ s.stack → v ∉ n :: new2 → v ∉ t.stack := fun v h1 h2 h3 => by
    rw [hst] at h3
    rcases List.mem_append.1 h3 with h3 | h3
    · exact h1 h3
    · exact h2 h3
  have hsorted : s.stack.Pairwise (fun a b => t.mark a < t.mark b) := by
    have h1 := h.inv.sorted
    rw [hst, List.pairwise_append] at h1
    exact h1.1
  refine ⟨⟨h.inv.lt, h.inv.le, h.inv.inj, h.inv.cnt, hsorted, fun v hv => h.inv.pos v (hS v hv), h.was.gray, fun v w hv hg hvw => ?_, fun v w hv hs hvw => ?_, fun v hv hs => ?_, fun x hx y hy => h.inv.reach x (List.mem_cons_of_mem _ hx) y (hS y hy), fun y hy => ?_⟩,
    ⟨h.ext.mark_old, h.ext.low_old, h.ext.fresh, h.ext.next⟩, by show 0 < t.mark n; rw [h.nmark]; omega, h.low_le, .inl hlow, ⟨[], by simp, by simp⟩⟩
  · by_cases e : v = n
    · subst e; exact (h.proc w (hall w hvw)).1
    · exact h.inv.black v w hv (by simp only [List.mem_cons, not_or]; exact ⟨e, hg⟩) hvw
  · by_cases hvC : v ∈ n :: new2
    · rcases (hout v hvC w hvw).2 with h1 | h1
      · exact hdis w h1
      · exact fun h2 => h1 (hS w h2)
    · have := h.inv.done v w hv (hnot v hs hvC) hvw
      exact fun h2 => this (hS w h2)
  · by_cases hvC : v ∈ n :: new2
    · show Least E v (ring' v)
      rw [hr1 v hvC]
      refine ⟨(hto v hvC).trans (hfrom r hmem), (hto r hmem).trans (hfrom v hvC), fun w hvw hwv => hmin w ?_⟩
      have h1 := Path.closed (S := fun a => 0 < t.mark a ∧ (a ∈ n :: new2 ∨ a ∉ t.stack)) hclosed hvw ⟨hv, .inl hvC⟩
      rcases h1.2 with h2 | h2
      · exact h2
      · have h3 := Path.closed (S := fun a => 0 < t.mark a ∧ a ∉ t.stack) hdone hwv ⟨h1.1, h2⟩
        exact absurd (hC v hvC) h3.2
    · show Least E v (ring' v)
      rw [hr2 v hvC]
      exact h.inv.ring v hv (hnot v hs hvC)
  · obtain ⟨x, hx, hxy, p⟩ := h.was.back y hy
    have h1 := h.old hy
    have h2 := h.old (h.was.gray x hx)
    exact ⟨x, hx, by show t.mark x ≤ t.mark y; omega, p⟩
end
theorem Inv.empty {s : Srch} (h1 : ∀ v, s.mark v = 0) (h2 : s.stack = []) (h3 : s.next = 0) : Inv E s [] := by
  refine ⟨fun v hv => ?_, fun v => ?_, fun u v _ hu => ?_, ?_, (by rw [h2]; exact .nil), fun v hv => ?_, fun g hg => (by cases hg), fun v w hv => ?_, fun v w hv => ?_, fun v hv => ?_, fun x hx => (by cases hx), fun y hy => ?_⟩
  · rw [h1] at hv; omega
  · rw [h1]; omega
  · rw [h1] at hu; omega
  · rw [h3]
    have : wh s.mark ≤ 32 := by
      have := List.countP_le_length (p := fun i => s.mark i == 0) (l := List.range 32)
      rw [List.length_range] at this
      exact this
    omega
  · rw [h2] at hv; cases hv
  · rw [h1] at hv; omega
  · rw [h1] at hv; omega
  · rw [h1] at hv; omega
  · rw [h2] at hy; cases hy
theorem Post.final {s s' : Srch} {n : Nat} (h : Post E s s' n []) (h1 : ∀ v, s.mark v = 0) : (∀ v, 0 < s'.mark v ↔ Path E n v) ∧ ∀ v, Path E n v → Least E v (s'.ring v) := by
  have hst : ∀ y, y ∉ s'.stack := fun y hy => by obtain ⟨x, hx, _⟩ := h.inv.back y hy; cases hx
  have hp : ∀ v, Path E n v → 0 < s'.mark v := fun v hv => Path.closed (S := fun a => 0 < s'.mark a) (fun a b ha hab => h.inv.black a b ha (by simp) hab) hv h.mine
  exact ⟨fun v => ⟨fun hv => (h.ext.fresh v (h1 v) hv).2, hp v⟩, fun v hv => h.inv.ring v (hp v hv) (hst v)⟩
end
end Go.Proofs.Ytopgdemmdcipcaa
namespace Go.Proofs.Ytopgdemmdcipcaa
set_option linter.unusedVariables false
theorem nodup_len : ∀ (n : Nat) (l : List Nat), l.Nodup → (∀ x ∈ l, x < n) → l.length ≤ n
  | 0, l, _, h => by
    cases l with
    | nil => simp
    | cons a t => exact absurd (h a List.mem_cons_self) (Nat.not_lt_zero _)
  | n + 1, l, hn, h => by
    have h1 := nodup_len n (l.filter (· != n)) (hn.filter _) (fun x hx => by
      rw [List.mem_filter] at hx
      have := h x hx.1
      have h2 : x ≠ n := by simpa using hx.2
      omega)
    have h2 : l.length ≤ (l.filter (· != n)).length + 1 := by
      clear h1 h
      induction l with
      | nil => simp
      | cons a t ih =>
        rw [List.nodup_cons] at hn
        have ih := ih hn.2
        by_cases e : a = n
        · subst e
          have : t.filter (· != a) = t := List.filter_eq_self.2 fun x hx => by simp; rintro rfl; exact hn.1 hx
          simp [this]
        · rw [List.filter_cons_of_pos (by simpa using e)]
          simp only [List.length_cons]
          omega
    omega
theorem countP_lt {p q : Nat → Bool} (h : ∀ k, q k = true → p k = true) {x : Nat} (hp : p x = true) (hq : q x = false) : ∀ (l : List Nat), x ∈ l → l.countP q < l.countP p := by
  intro l
  induction l with
  | nil => intro h; cases h
  | cons a t ih =>
    intro hm
    rw [List.countP_cons, List.countP_cons]
    have hle := countP_le h t
    rcases List.mem_cons.1 hm with rfl | hm
    · rw [hp, hq]; simp; omega
    · have := ih hm
      cases hqa : q a with
      | false => simp; omega
      | true => rw [h a hqa]; simp; omega
def candO (P : Nat → Nat → Bool) (n : Nat) (out : List Nat) (m : Nat) : Bool := P n m && (!out.contains m && (List.range 32).all fun d => !P m d || (P d m || out.contains d))
def nextO (P : Nat → Nat → Bool) (n : Nat) (out : List Nat) : Option Nat := (List.range 32).find? (candO P n out)
def ringO (P : Nat → Nat → Bool) (c : Nat) : List Nat := (List.range 32).filter fun m => P c m && P m c
def orderF (P : Nat → Nat → Bool) (n : Nat) : Nat → List Nat → List Nat
  | 0, out => out
  | k + 1, out => match nextO P n out with
    | none => out
    | some c => orderF P n k (out ++ ringO P c)
def orderS (P : Nat → Nat → Bool) (n : Nat) : List Nat := orderF P n 32 []
structure Pre (P : Nat → Nat → Bool) : Prop where
  refl : ∀ a, a < 32 → P a a = true
  trans : ∀ a b c, P a b = true → P b c = true → P a c = true
  lt : ∀ a b, a < 32 → P a b = true → b < 32
structure OKO (P : Nat → Nat → Bool) (n : Nat) (out : List Nat) : Prop where
  nodup : out.Nodup
  lt : ∀ m ∈ out, m < 32
  sub : ∀ m ∈ out, P n m = true
  dc : ∀ m ∈ out, ∀ d, P m d = true → d ∈ out
section
variable {P : Nat → Nat → Bool} {n : Nat} {out : List Nat}
theorem candO_iff {m : Nat} : candO P n out m = true ↔ P n m = true ∧ m ∉ out ∧ ∀ d, d < 32 → P m d = true → P d m = true ∨ d ∈ out := by
  simp only [candO, Bool.and_eq_true, Bool.not_eq_true', List.all_eq_true, List.mem_range, Bool.or_eq_true, List.contains_eq_mem, decide_eq_true_eq, decide_eq_false_iff_not]
  constructor
  · rintro ⟨h1, h2, h3⟩
    refine ⟨h1, h2, fun d hd hm => ?_⟩
    rcases h3 d hd with h | h
    · rw [hm] at h; cases h
    · exact h
  · rintro ⟨h1, h2, h3⟩
    refine ⟨h1, h2, fun d hd => ?_⟩
    cases hm : P m d with
    | false => exact .inl rfl
    | true => exact .inr (h3 d hd hm)
theorem nextO_some {c : Nat} (h : nextO P n out = some c) : c < 32 ∧ candO P n out c = true ∧ ∀ m, m < c → candO P n out m = false := by
  unfold nextO at h
  have h1 := List.find?_some h
  have h2 := List.mem_of_find?_eq_some h
  refine ⟨List.mem_range.1 h2, h1, fun m hm => ?_⟩
  rw [List.find?_range_eq_some] at h
  have := h.2.2 m hm
  simpa using this
theorem nextO_of {c : Nat} (hc : c < 32) (h1 : candO P n out c = true) (h2 : ∀ m, m < c → candO P n out m = false) : nextO P n out = some c := by
  unfold nextO
  rw [List.find?_range_eq_some]
  exact ⟨h1, List.mem_range.2 hc, fun m hm => by simp [h2 m hm]⟩
theorem nextO_none : nextO P n out = none ↔ ∀ m, m < 32 → candO P n out m = false := by
  unfold nextO
  rw [List.find?_eq_none]
  simp
theorem mem_ringO {c m : Nat} : m ∈ ringO P c ↔ m < 32 ∧ P c m = true ∧ P m c = true := by
  simp [ringO, List.mem_filter, List.mem_range]
theorem OKO.nil : OKO P n [] := ⟨List.nodup_nil, by simp, by simp, by simp⟩
theorem OKO.step (hP : Pre P) (hn : n < 32) (h : OKO P n out) {c : Nat} (hc : nextO P n out = some c) : OKO P n (out ++ ringO P c) := by
  obtain ⟨hc32, hcand, _⟩ := nextO_some hc
  rw [candO_iff] at hcand
  obtain ⟨h1, h2, h3⟩ := hcand
  refine ⟨?_, fun m hm => ?_, fun m hm => ?_, fun m hm d hd => ?_⟩
  · rw [List.nodup_append]
    refine ⟨h.nodup, List.nodup_range.filter _, fun a ha b hb => ?_⟩
    rintro rfl
    exact h2 (h.dc a ha c (mem_ringO.1 hb).2.2)
  · rcases List.mem_append.1 hm with hm | hm
    · exact h.lt m hm
    · exact (mem_ringO.1 hm).1
  · rcases List.mem_append.1 hm with hm | hm
    · exact h.sub m hm
    · exact hP.trans _ _ _ h1 (mem_ringO.1 hm).2.1
  · rcases List.mem_append.1 hm with hm | hm
    · exact List.mem_append_left _ (h.dc m hm d hd)
    · obtain ⟨hm32, hcm, hmc⟩ := mem_ringO.1 hm
      have hcd := hP.trans _ _ _ hcm hd
      have hd32 := hP.lt m d hm32 hd
      rcases h3 d hd32 hcd with h4 | h4
      · exact List.mem_append_right _ (mem_ringO.2 ⟨hd32, hcd, h4⟩)
      · exact List.mem_append_left _ h4
theorem ringO_self (hP : Pre P) {c : Nat} (hc : c < 32) : c ∈ ringO P c := mem_ringO.2 ⟨hc, hP.refl c hc, hP.refl c hc⟩
theorem OKO.len (h : OKO P n out) : out.length ≤ 32 := nodup_len 32 out h.nodup h.lt
theorem OKO.full (h : OKO P n out) (hl : 32 ≤ out.length) : nextO P n out = none := by
  rw [nextO_none]
  intro m hm
  cases hc : candO P n out m with
  | false => rfl
  | true =>
    rw [candO_iff] at hc
    have := nodup_len 32 (m :: out) (List.nodup_cons.2 ⟨hc.2.1, h.nodup⟩) (fun x hx => by
      rcases List.mem_cons.1 hx with rfl | hx
      · exact hm
      · exact h.lt x hx)
    simp only [List.length_cons] at this
    omega
theorem OKO.more (hP : Pre P) (hn : n < 32) (h : OKO P n out) : ∀ (k m : Nat), (List.range 32).countP (P m) ≤ k → P n m = true → m ∉ out → nextO P n out ≠ none
  | k, m, hk, hm, hmo => by
    intro h0
    have hm32 := hP.lt n m hn hm
    have hno := nextO_none.1 h0 m hm32
    by_cases hall : ∀ d, d < 32 → P m d = true → P d m = true ∨ d ∈ out
    · rw [candO_iff.2 ⟨hm, hmo, hall⟩] at hno
      cases hno
    · have hex : ∃ d, d < 32 ∧ P m d = true ∧ P d m = false ∧ d ∉ out := by
        refine Classical.byContradiction fun hne => hall fun d hd hmd => ?_
        by_cases h1 : d ∈ out
        · exact .inr h1
        · cases h2 : P d m with
          | true => exact .inl rfl
          | false => exact absurd ⟨d, hd, hmd, h2, h1⟩ hne
      obtain ⟨d, hd, hmd, hdm, hdo⟩ := hex
      have hlt : (List.range 32).countP (P d) < (List.range 32).countP (P m) :=
        countP_lt (p := P m) (q := P d) (fun x hx => hP.trans _ _ x hmd hx) (hP.refl m hm32) hdm _ (List.mem_range.2 hm32)
      cases k with
      | zero => omega
      | succ k => exact OKO.more hP hn h k d (by omega) (hP.trans _ _ _ hm hmd) hdo h0
theorem orderF_end (hP : Pre P) (hn : n < 32) : ∀ (k : Nat) (out : List Nat), OKO P n out → 32 ≤ k + out.length → OKO P n (orderF P n k out) ∧ nextO P n (orderF P n k out) = none
  | 0, out, h, hk => ⟨h, h.full (by omega)⟩
  | k + 1, out, h, hk => by
    unfold orderF
    cases hc : nextO P n out with
    | none => exact ⟨h, hc⟩
    | some c =>
      refine orderF_end hP hn k _ (h.step hP hn hc) ?_
      have := List.length_pos_of_mem (ringO_self hP (nextO_some hc).1)
      rw [List.length_append]
      omega
theorem orderS_mem (hP : Pre P) (hn : n < 32) (m : Nat) : m ∈ orderS P n ↔ P n m = true := by
  obtain ⟨h1, h2⟩ := orderF_end hP hn 32 [] OKO.nil (by simp)
  refine ⟨h1.sub m, fun hm => ?_⟩
  refine Classical.byContradiction fun hno => ?_
  exact h1.more hP hn _ m (Nat.le_refl _) hm hno h2
theorem orderS_ok (hP : Pre P) (hn : n < 32) : OKO P n (orderS P n) := (orderF_end hP hn 32 [] OKO.nil (by simp)).1
end
end Go.Proofs.Ytopgdemmdcipcaa
namespace Go.Proofs.Ytopgdemmdcipcaa
open Go.RowKit
open Rep (rep)
section
variable {α : Type} {n : Nat} {v : Vector α n} {k : Nat}
theorem idxV_ok (hk : k < n) : idxV v (k : Int) = some v[k] := by
  unfold idxV
  rw [if_pos (Int.natCast_nonneg k)]
  simp [hk]
theorem setV_ok {x : α} (hk : k < n) : setV v (k : Int) x = some (v.set k x) := by
  unfold setV
  rw [if_pos ⟨Int.natCast_nonneg k, by omega⟩]
  congr 1
  refine Vector.ext fun j hj => ?_
  simp [Vector.getElem_setIfInBounds, Vector.getElem_set]
end
def bat (v : Vector Bool 32) (k : Nat) : Bool := v[k]?.getD false
theorem bat_lt {v : Vector Bool 32} {k : Nat} (hk : k < 32) : v[k] = bat v k := by simp [bat, hk]
theorem idxB {v : Vector Bool 32} {k : Nat} (hk : k < 32) : idxV v (k : Int) = some (bat v k) := by rw [idxV_ok hk, bat_lt hk]
theorem bat_set {v : Vector Bool 32} {k j : Nat} {x : Bool} (hk : k < 32) : bat (v.set k x) j = if k = j then x else bat v j := by
  unfold bat
  by_cases hj : j < 32
  · simp only [Vector.getElem?_set]
    by_cases e : k = j
    · subst e; simp
    · simp [e]
  · have hkj : k ≠ j := by omega
    simp [hj, hkj]
theorem bat_ext {v u : Vector Bool 32} (h : ∀ k, k < 32 → bat v k = bat u k) : v = u := by
  refine Vector.ext fun k hk => ?_
  rw [bat_lt hk, bat_lt hk]
  exact h k hk
theorem bat_zero (k : Nat) : bat (Zr.zd : Vector Bool 32) k = false := by
  show bat (Vector.replicate 32 false) k = false
  unfold bat
  by_cases hk : k < 32 <;> simp [hk]
def cz (v : Vector Bool 32) : Nat := (List.range 32).countP fun k => !bat v k
theorem cz_set {v : Vector Bool 32} {k : Nat} (hk : k < 32) (h : bat v k = false) : cz v = cz (v.set k true) + 1 := by
  unfold cz
  refine countP_turn (n := k) (by simp [h]) (by rw [bat_set hk, if_pos rfl]; rfl) (fun j hj => ?_) _ List.nodup_range (List.mem_range.2 hk)
  rw [bat_set hk, if_neg (fun e => hj e.symm)]
theorem cz_le (v : Vector Bool 32) : cz v ≤ 32 := by
  unfold cz
  have := List.countP_le_length (p := fun k => !bat v k) (l := List.range 32)
  rw [List.length_range] at this
  exact this
theorem cz_mono {v u : Vector Bool 32} (h : ∀ k, bat v k = true → bat u k = true) : cz u ≤ cz v := by
  unfold cz
  refine countP_le (fun k hk => ?_) _
  cases hv : bat v k with
  | false => rfl
  | true => rw [h k hv] at hk; cases hk
def depsAt (g : GGraph) (a : Nat) : List Int := if h : a < 32 then g.deps[a] else []
theorem idxD {g : GGraph} {a : Nat} (h : a < 32) : idxV g.deps (a : Int) = some (depsAt g a) := by rw [idxV_ok h]; simp [depsAt, h]
def Edge (g : GGraph) (a b : Nat) : Prop := a < 32 ∧ bat g.known a = true ∧ (b : Int) ∈ depsAt g a ∧ b < 32
def Small (g : GGraph) (N : Nat) : Prop := ∀ a, (depsAt g a).length < N ∧ (depsAt g a).length ≤ 17592186043904
theorem path_lt {g : GGraph} {a b : Nat} (h : Path (Edge g) a b) (ha : a < 32) : b < 32 := by
  cases h with
  | refl => exact ha
  | tail _ e => exact e.2.2.2
theorem len_bytes {l : List Int} (h : l.length ≤ 100) : (l.length + 1) * Rep.bytes Int ≤ 140737488351232 := by
  have : Rep.bytes Int = 8 := rfl
  rw [this]; omega
theorem wrs (k : Nat) (h : k ≤ 17592186043904) : IntKind.wrap .i64 ((k : Int) + 1) = ((k + 1 : Nat) : Int) := by rw [wr64 (by omega) (by omega)]; omega
theorem int_cases (x : Int) : (∃ b : Nat, b < 32 ∧ x = b) ∨ ¬ (0 ≤ x ∧ x < 32) := by
  by_cases h : 0 ≤ x ∧ x < 32
  · exact .inl ⟨x.toNat, by omega, by omega⟩
  · exact .inr h
theorem drop_mem {α : Type} {l : List α} {k : Nat} (hk : k < l.length) : l.drop k = l[k] :: l.drop (k + 1) := List.drop_eq_getElem_cons hk
structure Fed (ds : List Int) (d : Vector Bool 32) (l : List Int) (d' : Vector Bool 32) (l' : List Int) : Prop where
  keep : ∀ k, bat d k = true → bat d' k = true
  all : ∀ b : Nat, b < 32 → (b : Int) ∈ ds → bat d' b = true
  only : ∀ k, bat d' k = true → bat d k = true ∨ ((k : Int) ∈ ds ∧ (k : Int) ∈ l')
  old : ∀ x, x ∈ l → x ∈ l'
  new : ∀ x, x ∈ l' → x ∈ l ∨ ∃ b : Nat, b < 32 ∧ x = b ∧ (b : Int) ∈ ds ∧ bat d' b = true
  cnt : l'.length + cz d' = l.length + cz d
theorem Fed.refl {d : Vector Bool 32} {l : List Int} : Fed [] d l d l := ⟨fun _ h => h, fun _ _ h => by simp at h, fun _ h => .inl h, fun _ h => h, fun _ h => .inl h, rfl⟩
theorem Fed.skip {x : Int} {ds : List Int} {d d' : Vector Bool 32} {l l' : List Int} (hx : ∀ b : Nat, b < 32 → x = b → bat d b = true) (h : Fed ds d l d' l') : Fed (x :: ds) d l d' l' := by
  refine ⟨h.keep, fun b hb hm => ?_, fun k hk => ?_, h.old, fun y hy => ?_, h.cnt⟩
  · rcases List.mem_cons.1 hm with e | hm
    · exact h.keep b (hx b hb e.symm)
    · exact h.all b hb hm
  · rcases h.only k hk with h1 | h1
    · exact .inl h1
    · exact .inr ⟨List.mem_cons_of_mem _ h1.1, h1.2⟩
  · rcases h.new y hy with h1 | ⟨b, h1, h2, h3, h4⟩
    · exact .inl h1
    · exact .inr ⟨b, h1, h2, List.mem_cons_of_mem _ h3, h4⟩
theorem Fed.push {a : Nat} {ds : List Int} {d d' : Vector Bool 32} {l l' : List Int} (ha : a < 32) (hd : bat d a = false) (h : Fed ds (d.set a true) (l ++ [(a : Int)]) d' l') : Fed ((a : Int) :: ds) d l d' l' := by
  have hset : bat (d.set a true) a = true := by rw [bat_set ha, if_pos rfl]
  refine ⟨fun k hk => h.keep k (by rw [bat_set ha]; split <;> simp [hk]), fun b hb hm => ?_, fun k hk => ?_, fun y hy => h.old y (List.mem_append_left _ hy), fun y hy => ?_, ?_⟩
  · rcases List.mem_cons.1 hm with e | hm
    · have : b = a := by omega
      subst this
      exact h.keep b hset
    · exact h.all b hb hm
  · rcases h.only k hk with h1 | h1
    · rw [bat_set ha] at h1
      by_cases e : a = k
      · subst e
        exact .inr ⟨List.mem_cons_self, h.old _ (by simp)⟩
      · rw [if_neg e] at h1
        exact .inl h1
    · exact .inr ⟨List.mem_cons_of_mem _ h1.1, h1.2⟩
  · rcases h.new y hy with h1 | ⟨b, h1, h2, h3, h4⟩
    · rcases List.mem_append.1 h1 with h1 | h1
      · exact .inl h1
      · rw [List.mem_singleton] at h1
        exact .inr ⟨a, ha, h1, List.mem_cons_self, h.keep a hset⟩
    · exact .inr ⟨b, h1, h2, List.mem_cons_of_mem _ h3, h4⟩
  · have h1 := h.cnt
    have h2 := cz_set ha hd
    rw [List.length_append] at h1
    simp only [List.length_cons, List.length_nil] at h1
    omega
theorem reach_l2_eq {rec : Vector Bool 32 → List Int → Option (Vector Bool 32)} {ds : List Int} (hds : ds.length ≤ 17592186043904) : ∀ (n m k : Nat) (d : Vector Bool 32) (l : List Int), ds.length = k + m → m < n → l.length + cz d ≤ 100 →
    ∃ d' l', reach_l2 rec ds n d l k = rec d' l' ∧ Fed (ds.drop k) d l d' l'
  | 0, m, k, d, l, _, h, _ => absurd h (by omega)
  | n + 1, 0, k, d, l, hk, _, _ => ⟨d, l, by rw [reach_l2, bif_f (dec_f (by omega))], by rw [List.drop_of_length_le (by omega)]; exact Fed.refl⟩
  | n + 1, m + 1, k, d, l, hk, hn, hl => by
    have hlt : k < ds.length := by omega
    have ih := fun d l h => reach_l2_eq (rec := rec) hds n m (k + 1) d l (by omega) (by omega) h
    rw [reach_l2, bif_t (dec_t (by omega)), idx_nat, List.getElem?_eq_getElem hlt, some_bind, drop_mem hlt]
    simp only [reach_j3, reach_j2, wrs k (by omega)]
    generalize ds[k] = x
    rcases int_cases x with ⟨b, hb, rfl⟩ | hx
    · rw [bif_t (dec_t (by omega)), bif_t (dec_t (by omega)), inR_ok (by omega) (by omega), some_bind, idxB hb, some_bind]
      cases hd : bat d b with
      | true =>
        obtain ⟨d', l', h1, h2⟩ := ih d l hl
        exact ⟨d', l', by rw [← h1]; rfl, h2.skip fun c _ e => (show c = b by omega) ▸ hd⟩
      | false =>
        have hc := cz_set hb hd
        obtain ⟨d', l', h1, h2⟩ := ih (d.set b true) (l ++ [(b : Int)]) (by simp; omega)
        refine ⟨d', l', ?_, h2.push hb hd⟩
        simp only [Bool.not_false, cond_true, some_bind, setV_ok hb, app_ok (a := l) (b := [(b : Int)]) (len_bytes (show l.length ≤ 100 by omega))]
        exact h1
    · obtain ⟨d', l', h1, h2⟩ := ih d l hl
      refine ⟨d', l', ?_, h2.skip fun c hc e => absurd (show 0 ≤ x ∧ x < 32 by omega) hx⟩
      by_cases h0 : x ≥ 0
      · rw [bif_t (dec_t h0), bif_f (dec_f (by omega))]; exact h1
      · rw [bif_f (dec_f h0)]; exact h1
structure Going (g : GGraph) (s : Nat) (d : Vector Bool 32) (l : List Int) : Prop where
  first : bat d s = true
  path : ∀ k, bat d k = true → Path (Edge g) s k
  work : ∀ x ∈ l, ∃ b : Nat, b < 32 ∧ x = b ∧ bat d b = true
  closed : ∀ a b, bat d a = true → (a : Int) ∉ l → Edge g a b → bat d b = true
theorem Going.fin {g : GGraph} {s : Nat} {d : Vector Bool 32} (h : Going g s d []) (k : Nat) : bat d k = true ↔ Path (Edge g) s k :=
  ⟨h.path k, fun hp => Path.closed (S := fun a => bat d a = true) (fun a b ha he => h.closed a b ha (by simp) he) hp h.first⟩
open Classical in
noncomputable def reachV (g : GGraph) (s : Nat) : Vector Bool 32 := Vector.ofFn fun k => decide (Path (Edge g) s k.val)
theorem bat_reachV {g : GGraph} {s k : Nat} (hk : k < 32) : bat (reachV g s) k = true ↔ Path (Edge g) s k := by
  unfold bat reachV
  simp [hk]
theorem reachV_of {g : GGraph} {s : Nat} {d : Vector Bool 32} (h : ∀ k, bat d k = true ↔ Path (Edge g) s k) : d = reachV g s := by
  refine bat_ext fun k hk => ?_
  rw [Bool.eq_iff_iff, h, bat_reachV hk]
theorem cutL_pop {l : List Int} (h : 0 < l.length) : cutL l none (some ((l.length : Int) - 1)) = some l.dropLast := by
  unfold cutL cutOk
  simp only [Option.getD_none, Option.getD_some]
  rw [if_pos (by omega)]
  simp only [Option.map_some, Option.some.injEq]
  rw [List.dropLast_eq_take, show ((0 : Int)).toNat = 0 from rfl, List.drop_zero]
  congr 1
  omega
theorem reach_l1_eq {fu N : Nat} {g : GGraph} (hg : Small g N) (hf : N ≤ fu) {s : Nat} : ∀ (n : Nat) (d : Vector Bool 32) (l : List Int), Going g s d l → l.length + cz d < n → l.length + cz d ≤ 100 → reach_l1 fu g n d l = some (reachV g s)
  | 0, d, l, _, h, _ => absurd h (by omega)
  | n + 1, d, l, hG, hn, hl => by
    rw [reach_l1]
    by_cases h0 : l.length = 0
    · have : l = [] := List.length_eq_zero_iff.1 h0
      subst this
      rw [bif_f (dec_f (by simp)), some_bind, reachV_of hG.fin]
    · rw [bif_t (dec_t (by omega)), wr64 (by omega) (by omega), show ((l.length : Int) - 1) = ((l.length - 1 : Nat) : Int) from by omega, idx_nat, List.getElem?_eq_getElem (by omega), some_bind,
        show (((l.length - 1 : Nat) : Int)) = (l.length : Int) - 1 from by omega, cutL_pop (by omega), some_bind]
      have hlast : l = l.dropLast ++ [l[l.length - 1]] := by
        have h1 := List.dropLast_concat_getLast (l := l) (by rintro rfl; simp at h0)
        rw [List.getLast_eq_getElem] at h1
        exact h1.symm
      obtain ⟨m, hm, hx, hdm⟩ := hG.work l[l.length - 1] (List.getElem_mem _)
      rw [hx] at hlast ⊢
      generalize hl2 : l.dropLast = l2 at hlast ⊢
      have hlen : l.length = l2.length + 1 := by rw [hlast]; simp
      have hmem : ∀ x, x ∈ l → x ∈ l2 ∨ x = m := fun x hx => by
        rw [hlast] at hx
        rcases List.mem_append.1 hx with h | h
        · exact .inl h
        · exact .inr (by simpa using h)
      have hsub : ∀ x, x ∈ l2 → x ∈ l := fun x hx => by rw [hlast]; exact List.mem_append_left _ hx
      rw [inR_ok (by omega) (by omega), some_bind, idxB hm, some_bind]
      cases hk : bat g.known m with
      | false =>
        rw [bif_t (by rfl)]
        refine reach_l1_eq hg hf n d l2 ⟨hG.first, hG.path, fun x hx => hG.work x (hsub x hx), fun a b ha hno he => ?_⟩ (by omega) (by omega)
        by_cases e : a = m
        · subst e; rw [he.2.1] at hk; cases hk
        · refine hG.closed a b ha (fun hal => ?_) he
          rcases hmem _ hal with h1 | h1
          · exact hno h1
          · omega
      | true =>
        rw [bif_f (by rfl), some_bind, idxD hm, some_bind]
        obtain ⟨d', l', h1, h2⟩ := reach_l2_eq (rec := reach_l1 fu g n) (hg m).2 fu (depsAt g m).length 0 d l2 (by omega) (by have := (hg m).1; omega) (by omega)
        have h1 : reach_l2 (reach_l1 fu g n) (depsAt g m) fu d l2 0 = reach_l1 fu g n d' l' := h1
        rw [h1]
        rw [List.drop_zero] at h2
        have hc := h2.cnt
        refine reach_l1_eq hg hf n d' l' ⟨h2.keep _ hG.first, fun k hk' => ?_, fun x hx => ?_, fun a b ha hno he => ?_⟩ (by omega) (by omega)
        · rcases h2.only k hk' with h3 | ⟨h3, h4⟩
          · exact hG.path k h3
          · rcases h2.new k h4 with h5 | ⟨b, hb, e, _, _⟩
            · obtain ⟨b, hb, e, hd⟩ := hG.work _ (hsub _ h5)
              have : k = b := by omega
              subst this
              exact hG.path k hd
            · have : k = b := by omega
              subst this
              exact .tail (hG.path m hdm) ⟨hm, hk, h3, hb⟩
        · rcases h2.new x hx with h3 | ⟨b, hb, e, _, hd⟩
          · obtain ⟨b, hb, e, hd⟩ := hG.work x (hsub x h3)
            exact ⟨b, hb, e, h2.keep b hd⟩
          · exact ⟨b, hb, e, hd⟩
        · by_cases e : a = m
          · subst e; exact h2.all b he.2.2.2 he.2.2.1
          · rcases h2.only a ha with h3 | ⟨_, h3⟩
            · refine h2.keep b (hG.closed a b h3 (fun hal => ?_) he)
              rcases hmem _ hal with h4 | h4
              · exact hno (h2.old _ h4)
              · omega
            · exact absurd h3 hno
noncomputable def reachZ (g : GGraph) (x : Int) : Vector Bool 32 := if 0 ≤ x ∧ x < 32 then reachV g x.toNat else Zr.zd
theorem start_going (g : GGraph) {s : Nat} (hs : s < 32) : Going g s ((Zr.zd : Vector Bool 32).set s true) [(s : Int)] := by
  have h1 : ∀ k, bat ((Zr.zd : Vector Bool 32).set s true) k = true ↔ s = k := fun k => by
    rw [bat_set hs, bat_zero]
    by_cases e : s = k <;> simp [e]
  refine ⟨(h1 s).2 rfl, fun k hk => ?_, fun x hx => ?_, fun a b ha hno he => ?_⟩
  · rw [(h1 k).1 hk]; exact .refl _
  · exact ⟨s, hs, by simpa using hx, (h1 s).2 rfl⟩
  · have := (h1 a).1 ha
    subst this
    exact absurd (by simp) hno
theorem reachD_eq {fu N : Nat} {g : GGraph} (hg : Small g N) (hf : N + 40 ≤ fu) (x : Int) : reachD fu g x = some (reachZ g x) := by
  unfold reachD reachZ
  rcases int_cases x with ⟨s, hs, rfl⟩ | hx
  · rw [bif_f (dec_f (by omega)), reach_j4, bif_f (dec_f (by omega)), if_pos (by omega), reach_j1, inR_ok (by omega) (by omega), some_bind, idxB hs, some_bind, setV_ok hs, some_bind, some_bind]
    have hc := cz_le ((Zr.zd : Vector Bool 32).set s true)
    exact reach_l1_eq hg (by omega) fu _ _ (start_going g hs) (by simp; omega) (by simp; omega)
  · rw [if_neg hx]
    by_cases h0 : x < 0
    · rw [bif_t (dec_t h0)]; rfl
    · rw [bif_f (dec_f h0), reach_j4, bif_t (dec_t (by omega))]; rfl
structure Grown (ds : List Int) (d : Vector Bool 32) (c : Bool) (d' : Vector Bool 32) (c' : Bool) : Prop where
  keep : ∀ k, bat d k = true → bat d' k = true
  all : ∀ b : Nat, b < 32 → (b : Int) ∈ ds → bat d' b = true
  only : ∀ k, bat d' k = true → bat d k = true ∨ ((k : Int) ∈ ds ∧ k < 32)
  same : c' = false → c = false ∧ d' = d
  less : c' = true → c = true ∨ cz d' < cz d
theorem Grown.cz {ds : List Int} {d d' : Vector Bool 32} {c c' : Bool} (h : Grown ds d c d' c') : cz d' ≤ cz d := cz_mono h.keep
theorem reaches_l3_eq {y : Int} {rec : Vector Bool 32 → Bool → Int → Option (Vector Bool 32)} {ds : List Int} (hds : ds.length ≤ 17592186043904) : ∀ (n m k : Nat) (d : Vector Bool 32) (c : Bool), ds.length = k + m → m < n →
    ∃ d' c', reaches_l3 y rec ds n d c k = rec d' c' (IntKind.wrap .i64 (y + 1)) ∧ Grown (ds.drop k) d c d' c'
  | 0, m, k, d, c, _, h => absurd h (by omega)
  | n + 1, 0, k, d, c, hk, _ => ⟨d, c, by rw [reaches_l3, bif_f (dec_f (by omega))]; rfl, by
      rw [List.drop_of_length_le (by omega)]
      exact ⟨fun _ h => h, fun _ _ h => by simp at h, fun _ h => .inl h, fun h => ⟨h, rfl⟩, fun h => .inl h⟩⟩
  | n + 1, m + 1, k, d, c, hk, hn => by
    have hlt : k < ds.length := by omega
    have ih := fun d c => reaches_l3_eq (y := y) (rec := rec) hds n m (k + 1) d c (by omega) (by omega)
    rw [reaches_l3, bif_t (dec_t (by omega)), idx_nat, List.getElem?_eq_getElem hlt, some_bind, some_bind, drop_mem hlt]
    simp only [reaches_j4, reaches_j3, wrs k (by omega)]
    generalize ds[k] = x
    have skip : ∀ {d' c'}, (∀ b : Nat, b < 32 → x = b → bat d b = true) → Grown (ds.drop (k + 1)) d c d' c' → Grown (x :: ds.drop (k + 1)) d c d' c' := fun {d' c'} hx h2 =>
      ⟨h2.keep, fun b hb hm => by
        rcases List.mem_cons.1 hm with e | hm
        · exact h2.keep b (hx b hb e.symm)
        · exact h2.all b hb hm, fun j hj => by
        rcases h2.only j hj with h | h
        · exact .inl h
        · exact .inr ⟨List.mem_cons_of_mem _ h.1, h.2⟩, h2.same, h2.less⟩
    rcases int_cases x with ⟨b, hb, rfl⟩ | hx
    · rw [bif_t (dec_t (by omega)), inR_ok (by omega) (by omega), some_bind, idxB hb, some_bind]
      cases hd : bat d b with
      | true =>
        obtain ⟨d', c', h1, h2⟩ := ih d c
        exact ⟨d', c', by rw [← h1]; rfl, skip (fun a _ e => (show a = b by omega) ▸ hd) h2⟩
      | false =>
        obtain ⟨d', c', h1, h2⟩ := ih (d.set b true) true
        have hset : bat (d.set b true) b = true := by rw [bat_set hb, if_pos rfl]
        have hcz := cz_set hb hd
        have hcz2 := h2.cz
        refine ⟨d', c', ?_, ⟨fun j hj => h2.keep j (by rw [bat_set hb]; split <;> simp [hj]), fun a ha hm => ?_, fun j hj => ?_, fun hc => ?_, fun _ => .inr (by omega)⟩⟩
        · simp only [Bool.not_false, cond_true, some_bind, setV_ok hb]
          exact h1
        · rcases List.mem_cons.1 hm with e | hm
          · have : a = b := by omega
            subst this
            exact h2.keep a hset
          · exact h2.all a ha hm
        · rcases h2.only j hj with h | h
          · rw [bat_set hb] at h
            by_cases e : b = j
            · subst e; exact .inr ⟨List.mem_cons_self, hb⟩
            · rw [if_neg e] at h; exact .inl h
          · exact .inr ⟨List.mem_cons_of_mem _ h.1, h.2⟩
        · have := (h2.same hc).1; cases this
    · obtain ⟨d', c', h1, h2⟩ := ih d c
      refine ⟨d', c', ?_, skip (fun a ha e => absurd (show 0 ≤ x ∧ x < 32 by omega) hx) h2⟩
      rw [bif_f (dec_f hx)]; exact h1
structure Pass (g : GGraph) (s : Nat) (k : Nat) (d0 d : Vector Bool 32) (c : Bool) : Prop where
  keep : ∀ j, bat d0 j = true → bat d j = true
  path : ∀ j, bat d j = true → Path (Edge g) s j
  same : c = false → d = d0 ∧ ∀ a b, a < k → bat d0 a = true → Edge g a b → bat d0 b = true
  less : c = true → cz d < cz d0
theorem reaches_l2_eq {fu N : Nat} {g : GGraph} (hg : Small g N) (hf : N ≤ fu) {s : Nat} {rec : Vector Bool 32 → Bool → Option (Vector Bool 32)} {d0 : Vector Bool 32} : ∀ (n m k : Nat) (d : Vector Bool 32) (c : Bool), k + m = 32 → m < n → Pass g s k d0 d c →
    ∃ d' c', reaches_l2 fu g rec n d c k = rec d' c' ∧ Pass g s 32 d0 d' c'
  | 0, m, k, d, c, _, h, _ => absurd h (by omega)
  | n + 1, 0, k, d, c, hk, _, hp => ⟨d, c, by rw [reaches_l2, bif_f (dec_f (by omega))], by rw [show (32 : Nat) = k from by omega]; exact hp⟩
  | n + 1, m + 1, k, d, c, hk, hn, hp => by
    have hk32 : k < 32 := by omega
    have ih := fun d c => reaches_l2_eq (s := s) hg hf (rec := rec) (d0 := d0) n m (k + 1) d c (by omega) (by omega)
    have stay : (bat d k = true → bat g.known k = true → False) → Pass g s (k + 1) d0 d c := fun hno =>
      ⟨hp.keep, hp.path, fun hc => ⟨(hp.same hc).1, fun a b ha h0 he => by
        by_cases e : a = k
        · subst e
          exact (hno (hp.keep a h0) he.2.1).elim
        · exact (hp.same hc).2 a b (by omega) h0 he⟩, hp.less⟩
    rw [reaches_l2, bif_t (dec_t (by omega)), inR_ok (by omega) (by omega), some_bind, idxB hk32, some_bind]
    cases hd : bat d k with
    | false =>
      obtain ⟨d', c', h1, h2⟩ := ih d c (stay fun h => by rw [hd] at h; cases h)
      refine ⟨d', c', ?_, h2⟩
      simp only [Bool.not_false, cond_true, reaches_j5, reaches_j1, wrs k (by omega)]
      exact h1
    | true =>
      rw [bif_f (by rfl), some_bind, idxB hk32, some_bind]
      cases hkn : bat g.known k with
      | false =>
        obtain ⟨d', c', h1, h2⟩ := ih d c (stay fun _ h => by rw [hkn] at h; cases h)
        refine ⟨d', c', ?_, h2⟩
        simp only [Bool.not_false, cond_true, reaches_j5, reaches_j1, wrs k (by omega)]
        exact h1
      | true =>
        obtain ⟨d1, c1, h1, h2⟩ := reaches_l3_eq (y := (k : Int)) (rec := reaches_l2 fu g rec n) (hg k).2 fu (depsAt g k).length 0 d c (by omega) (by have := (hg k).1; omega)
        have h1 : reaches_l3 (k : Int) (reaches_l2 fu g rec n) (depsAt g k) fu d c 0 = _ := h1
        rw [List.drop_zero] at h2
        have hpass : Pass g s (k + 1) d0 d1 c1 := by
          refine ⟨fun j hj => h2.keep j (hp.keep j hj), fun j hj => ?_, fun hc => ?_, fun hc => ?_⟩
          · rcases h2.only j hj with h | h
            · exact hp.path j h
            · exact .tail (hp.path k hd) ⟨hk32, hkn, h.1, h.2⟩
          · obtain ⟨hc0, hdd⟩ := h2.same hc
            obtain ⟨e0, hcl⟩ := hp.same hc0
            refine ⟨hdd.trans e0, fun a b ha h0 he => ?_⟩
            by_cases e : a = k
            · subst e
              have := h2.all b he.2.2.2 he.2.2.1
              rw [hdd, e0] at this
              exact this
            · exact hcl a b (by omega) h0 he
          · rcases h2.less hc with h | h
            · have h3 := hp.less h
              have h4 := h2.cz
              omega
            · have h3 := cz_mono hp.keep
              omega
        obtain ⟨d', c', h3, h4⟩ := ih d1 c1 hpass
        refine ⟨d', c', ?_, h4⟩
        simp only [Bool.not_true, cond_false, reaches_j5, reaches_j2]
        rw [inR_ok (by omega) (by omega), some_bind, idxD hk32, some_bind, h1, wrs k (by omega)]
        exact h3
theorem reaches_l1_eq {fu N : Nat} {g : GGraph} (hg : Small g N) (hf : N + 40 ≤ fu) {s : Nat} : ∀ (n : Nat) (d : Vector Bool 32), bat d s = true → (∀ j, bat d j = true → Path (Edge g) s j) → cz d + 1 < n → reaches_l1 fu g n d true = some (reachV g s)
  | 0, d, _, _, h => absurd h (by omega)
  | n + 1, d, h0, hp, hn => by
    rw [reaches_l1, bif_t rfl]
    obtain ⟨d', c', h1, h2⟩ := reaches_l2_eq (s := s) hg (show N ≤ fu by omega) (rec := reaches_l1 fu g n) (d0 := d) fu 32 0 d false (by omega) (by omega)
      ⟨fun _ h => h, hp, fun _ => ⟨rfl, fun a b ha => absurd ha (by omega)⟩, fun h => by cases h⟩
    have h1 : reaches_l2 fu g (reaches_l1 fu g n) fu d false 0 = _ := h1
    rw [h1]
    cases c' with
    | true =>
      have := h2.less rfl
      exact reaches_l1_eq hg hf n d' (h2.keep s h0) h2.path (by omega)
    | false =>
      obtain ⟨rfl, hcl⟩ := h2.same rfl
      obtain ⟨n, rfl⟩ : ∃ q, n = q + 1 := ⟨n - 1, by omega⟩
      rw [reaches_l1, bif_f rfl, some_bind]
      refine congrArg some (reachV_of fun k => ⟨hp k, fun h => Path.closed (S := fun a => bat d' a = true) (fun a b ha he => hcl a b he.1 ha he) h h0⟩)
theorem reachesD_eq {fu N : Nat} {g : GGraph} (hg : Small g N) (hf : N + 40 ≤ fu) (x : Int) : reachesD fu g x = some (reachZ g x) := by
  unfold reachesD reachZ
  rw [some_bind]
  rcases int_cases x with ⟨s, hs, rfl⟩ | hx
  · rw [dec_t (show (0 : Int) ≤ s ∧ (s : Int) < 32 by omega), bif_f (c := !true) rfl, if_pos (by omega), inR_ok (by omega) (by omega), some_bind, idxB hs, some_bind, setV_ok hs, some_bind, some_bind]
    have hG := start_going g hs
    have hc := cz_le ((Zr.zd : Vector Bool 32).set s true)
    exact reaches_l1_eq hg hf fu _ hG.first hG.path (by omega)
  · rw [dec_f hx, bif_t (c := !false) rfl, if_neg hx, some_bind]
def allKnown (g : GGraph) (d : Vector Bool 32) (k : Nat) : Prop := ∀ j, k ≤ j → j < 32 → bat d j = true → bat g.known j = true
open Classical in
noncomputable def readyZ (g : GGraph) (x : Int) : Bool := decide ((0 ≤ x ∧ x < 32) ∧ ∀ j, j < 32 → bat (reachZ g x) j = true → bat g.known j = true)
theorem ready_l1_eq {g : GGraph} {d : Vector Bool 32} : ∀ (n m k : Nat), k + m = 32 → m < n → ∃ b, ready_l1 g d n k = some b ∧ (b = true ↔ allKnown g d k)
  | 0, m, k, _, h => absurd h (by omega)
  | n + 1, 0, k, hk, _ => ⟨true, by rw [ready_l1, bif_f (dec_f (by omega))], by simp only [true_iff]; intro j h1 h2; omega⟩
  | n + 1, m + 1, k, hk, hn => by
    have hk32 : k < 32 := by omega
    obtain ⟨b, h1, h2⟩ := ready_l1_eq (g := g) (d := d) n m (k + 1) (by omega) (by omega)
    rw [ready_l1, bif_t (dec_t (by omega)), idxB hk32, some_bind]
    simp only [ready_j3, ready_j2, wrs k (by omega)]
    have step : (bat d k = true → bat g.known k = true) → (b = true ↔ allKnown g d k) := fun hs => by
      rw [h2]
      constructor
      · intro h j hj
        by_cases e : j = k
        · subst e; intro _; exact hs
        · exact h j (by omega)
      · intro h j hj
        exact h j (by omega)
    cases hd : bat d k with
    | false => exact ⟨b, h1, step fun h => by rw [hd] at h; cases h⟩
    | true =>
      rw [bif_t rfl, inR_ok (by omega) (by omega), some_bind, idxB hk32, some_bind]
      cases hkn : bat g.known k with
      | true => exact ⟨b, h1, step fun _ => hkn⟩
      | false =>
        refine ⟨false, rfl, ?_⟩
        simp only [Bool.false_eq_true, false_iff]
        intro h
        have := h k (Nat.le_refl _) hk32 hd
        rw [hkn] at this; cases this
theorem readyIn_l1_eq {g : GGraph} {x : Int} {d : Vector Bool 32} : ∀ (n m k : Nat), k + m = 32 → m < n → ∃ b, readyIn_l1 g x d n k = some b ∧ (b = true ↔ (0 ≤ x ∧ x < 32) ∧ allKnown g d k)
  | 0, m, k, _, h => absurd h (by omega)
  | n + 1, 0, k, hk, _ => ⟨decide (0 ≤ x ∧ x < 32), by rw [readyIn_l1, bif_f (dec_f (by omega)), some_bind], by
      simp only [decide_eq_true_eq]
      exact ⟨fun h => ⟨h, fun j h1 h2 => by omega⟩, fun h => h.1⟩⟩
  | n + 1, m + 1, k, hk, hn => by
    have hk32 : k < 32 := by omega
    obtain ⟨b, h1, h2⟩ := readyIn_l1_eq (g := g) (x := x) (d := d) n m (k + 1) (by omega) (by omega)
    rw [readyIn_l1, bif_t (dec_t (by omega)), idxB hk32, some_bind]
    simp only [readyIn_j2, readyIn_j1, wrs k (by omega)]
    have step : (bat d k = true → bat g.known k = true) → (b = true ↔ (0 ≤ x ∧ x < 32) ∧ allKnown g d k) := fun hs => by
      rw [h2]
      refine and_congr_right fun _ => ?_
      constructor
      · intro h j hj
        by_cases e : j = k
        · subst e; intro _; exact hs
        · exact h j (by omega)
      · intro h j hj
        exact h j (by omega)
    cases hd : bat d k with
    | false => exact ⟨b, h1, step fun h => by rw [hd] at h; cases h⟩
    | true =>
      rw [bif_t rfl, inR_ok (by omega) (by omega), some_bind, idxB hk32, some_bind]
      cases hkn : bat g.known k with
      | true => exact ⟨b, h1, step fun _ => hkn⟩
      | false =>
        refine ⟨false, rfl, ?_⟩
        simp only [Bool.false_eq_true, false_iff]
        intro h
        have := h.2 k (Nat.le_refl _) hk32 hd
        rw [hkn] at this; cases this
theorem readyZ_iff {g : GGraph} {x : Int} : readyZ g x = true ↔ (0 ≤ x ∧ x < 32) ∧ allKnown g (reachZ g x) 0 := by
  unfold readyZ allKnown
  simp
theorem readyD_eq {fu N : Nat} {g : GGraph} (hg : Small g N) (hf : N + 40 ≤ fu) (x : Int) : readyD fu g x = some (readyZ g x) := by
  unfold readyD
  rcases int_cases x with ⟨s, hs, rfl⟩ | hx
  · rw [bif_f (dec_f (by omega)), ready_j4, bif_f (dec_f (by omega)), ready_j1, reachD_eq hg hf, some_bind]
    obtain ⟨b, h1, h2⟩ := ready_l1_eq (g := g) (d := reachZ g s) fu 32 0 (by omega) (by omega)
    have h1 : ready_l1 g (reachZ g s) fu 0 = some b := h1
    rw [h1]
    congr 1
    rw [Bool.eq_iff_iff, h2, readyZ_iff]
    simp; omega
  · have : readyZ g x = false := by
      cases h : readyZ g x with
      | false => rfl
      | true => exact absurd (readyZ_iff.1 h).1 hx
    rw [this]
    by_cases h0 : x < 0
    · rw [bif_t (dec_t h0)]; rfl
    · rw [bif_f (dec_f h0), ready_j4, bif_t (dec_t (by omega))]
theorem readyInD_eq {fu N : Nat} {g : GGraph} (hg : Small g N) (hf : N + 40 ≤ fu) (x : Int) : readyInD fu g x = some (readyZ g x) := by
  unfold readyInD
  rw [reachesD_eq hg hf, some_bind]
  obtain ⟨b, h1, h2⟩ := readyIn_l1_eq (g := g) (x := x) (d := reachZ g x) fu 32 0 (by omega) (by omega)
  have h1 : readyIn_l1 g x (reachZ g x) fu 0 = some b := h1
  rw [h1]
  congr 1
  rw [Bool.eq_iff_iff, h2, readyZ_iff]
end Go.Proofs.Ytopgdemmdcipcaa
namespace Go.Proofs.Ytopgdemmdcipcaa
open Go.RowKit
open Rep (rep)
def iat (v : Vector Int 32) (k : Nat) : Int := v[k]?.getD 0
theorem idxI {v : Vector Int 32} {k : Nat} (hk : k < 32) : idxV v (k : Int) = some (iat v k) := by rw [idxV_ok hk]; simp [iat, hk]
theorem iat_set {v : Vector Int 32} {k j : Nat} {x : Int} (hk : k < 32) : iat (v.set k x) j = if k = j then x else iat v j := by
  unfold iat
  by_cases hj : j < 32
  · simp only [Vector.getElem?_set]
    by_cases e : k = j
    · subst e; simp
    · simp [e]
  · have hkj : k ≠ j := by omega
    simp [hj, hkj]
theorem iat_zero (k : Nat) : iat (Zr.zd : Vector Int 32) k = 0 := by
  show iat (Vector.replicate 32 0) k = 0
  unfold iat
  by_cases hk : k < 32 <;> simp [hk]
def DE (g : GGraph) (a b : Nat) : Prop := a < 32 ∧ (b : Int) ∈ depsAt g a ∧ b < 32
structure Abs (x : GSearch) (l : List Int) (t : Srch) : Prop where
  mark : ∀ k, k < 32 → iat x.mark_ k = (t.mark k : Int)
  low : ∀ k, k < 32 → iat x.low k = (t.low k : Int)
  ring : ∀ k, k < 32 → iat x.ring k = (t.ring k : Int)
  on : ∀ k, k < 32 → bat x.on_ k = decide (k ∈ t.stack)
  stack : l = t.stack.map fun k => ((k : Nat) : Int)
  next : x.next = (t.next : Int)
theorem LI.sub {E : Nat → Nat → Prop} {s t : Srch} {G : List Nat} {n : Nat} {ds ds' : Nat → Prop} (h : LI E s G n t ds) (hs : ∀ d, ds' d → ds d) : LI E s G n t ds' :=
  ⟨h.was, h.white, h.inv, h.ext, h.nmark, h.low_le, h.low_or, h.stack, fun d hd => h.proc d (hs d hd)⟩
def VOk (g : GGraph) (fu n : Nat) : Prop := ∀ (x : GSearch) (l : List Int) (t : Srch) (G : List Nat) (m : Nat), x.g = g → Abs x l t → Inv (DE g) t G → t.mark m = 0 → m < 32 → (∀ a ∈ G, Path (DE g) a m) → wh t.mark ≤ n →
  ∃ x' l' t', visit_r fu n x l m = some (x', l') ∧ x'.g = g ∧ Abs x' l' t' ∧ Post (DE g) t t' m G
theorem stack_len {E : Nat → Nat → Prop} {s : Srch} {G : List Nat} (h : Inv E s G) : s.stack.length ≤ 32 := by
  refine nodup_len 32 s.stack ?_ fun x hx => h.lt x (h.pos x hx)
  rw [List.nodup_iff_pairwise_ne]
  refine h.sorted.imp fun {a b} hab => ?_
  rintro rfl
  omega
theorem cast_inj {a b : Nat} (h : (a : Int) = b) : a = b := by omega
theorem visit_l4_eq {l : List Int} {y174 : Int} {r : Nat} (C : List Nat) (hC : ∀ c ∈ C, c < 32) (hlen : C.length ≤ 32) : ∀ (n m k : Nat) (x : GSearch), C.length = k + m → m < n →
    ∃ x' : GSearch, visit_l4 l y174 r (C.map fun c => ((c : Nat) : Int)) n x k = ((cutL l none (some y174)).bind fun l2 => some ({ x' with stack := Hole.mk }, l2)) ∧ x'.g = x.g ∧ x'.mark_ = x.mark_ ∧ x'.low = x.low ∧ x'.next = x.next ∧
      (∀ j, iat x'.ring j = if j ∈ C.drop k then (r : Int) else iat x.ring j) ∧ (∀ j, bat x'.on_ j = if j ∈ C.drop k then false else bat x.on_ j)
  | 0, m, k, x, _, h => absurd h (by omega)
  | n + 1, 0, k, x, hk, _ => by
    refine ⟨x, ?_, rfl, rfl, rfl, rfl, fun j => ?_, fun j => ?_⟩
    · rw [visit_l4, bif_f (dec_f (by simp; omega))]
      rfl
    · rw [List.drop_of_length_le (by omega)]; simp
    · rw [List.drop_of_length_le (by omega)]; simp
  | n + 1, m + 1, k, x, hk, hn => by
    have hlt : k < C.length := by omega
    have hc := hC C[k] (List.getElem_mem _)
    obtain ⟨x', h1, h2, h3, h4, h5, h6, h7⟩ := visit_l4_eq (l := l) (y174 := y174) (r := r) C hC hlen n m (k + 1) { x with ring := x.ring.set C[k] (r : Int), on_ := x.on_.set C[k] false } (by omega) (by omega)
    refine ⟨x', ?_, h2, h3, h4, h5, fun j => ?_, fun j => ?_⟩
    · rw [visit_l4, bif_t (dec_t (by simp; omega)), idx_nat, List.getElem?_map, List.getElem?_eq_getElem hlt]
      simp only [Option.map_some, some_bind, inR_ok (show (0 : Int) ≤ ((C[k] : Nat) : Int) by omega) (show ((C[k] : Nat) : Int) < 32 by omega), idxI hc, idxB hc, setV_ok hc, wrs k (show k ≤ 17592186043904 by omega)]
      exact h1
    · rw [h6 j, List.drop_eq_getElem_cons hlt]
      show (if j ∈ C.drop (k + 1) then (r : Int) else iat (x.ring.set C[k] (r : Int)) j) = _
      rw [iat_set hc]
      simp only [List.mem_cons]
      by_cases e : C[k] = j
      · rw [if_pos e, if_pos (show j = C[k] ∨ j ∈ C.drop (k + 1) from .inl e.symm)]; split <;> rfl
      · have e2 : ¬ j = C[k] := fun h => e h.symm
        rw [if_neg e]
        simp only [e2, false_or]
    · rw [h7 j, List.drop_eq_getElem_cons hlt]
      show (if j ∈ C.drop (k + 1) then false else bat (x.on_.set C[k] false) j) = _
      rw [bat_set hc]
      simp only [List.mem_cons]
      by_cases e : C[k] = j
      · rw [if_pos e, if_pos (show j = C[k] ∨ j ∈ C.drop (k + 1) from .inl e.symm)]; split <;> rfl
      · have e2 : ¬ j = C[k] := fun h => e h.symm
        rw [if_neg e]
        simp only [e2, false_or]
theorem visit_l3_eq {fu : Nat} {x : GSearch} {l l2 : List Int} {y174 : Int} (hcut : cutL l (some y174) none = some l2) (C : List Nat) (hlen : C.length ≤ 32) : ∀ (n m k r : Nat), C.length = k + m → m < n → r ∈ C → (∀ i v, i < k → C[i]? = some v → r ≤ v) →
    ∃ r' : Nat, visit_l3 fu x l y174 (C.map fun c => ((c : Nat) : Int)) n r k = visit_l4 l y174 (r' : Int) l2 fu x 0 ∧ r' ∈ C ∧ ∀ v ∈ C, r' ≤ v
  | 0, m, k, r, _, h, _, _ => absurd h (by omega)
  | n + 1, 0, k, r, hk, _, hr, hmin => by
    refine ⟨r, ?_, hr, fun v hv => ?_⟩
    · rw [visit_l3, bif_f (dec_f (by simp; omega)), hcut, some_bind]
    · obtain ⟨i, hi, rfl⟩ := List.getElem_of_mem hv
      exact hmin i _ (by omega) (List.getElem?_eq_getElem hi)
  | n + 1, m + 1, k, r, hk, hn, hr, hmin => by
    have hlt : k < C.length := by omega
    have hmn : min (r : Int) (C[k] : Int) = ((min r C[k] : Nat) : Int) := by
      by_cases h : r ≤ C[k]
      · rw [Nat.min_eq_left h, Int.min_eq_left (by omega)]
      · rw [Nat.min_eq_right (by omega), Int.min_eq_right (by omega)]
    obtain ⟨r', h1, h2, h3⟩ := visit_l3_eq (fu := fu) (x := x) hcut C hlen n m (k + 1) (min r C[k]) (by omega) (by omega) (by
        by_cases h : r ≤ C[k]
        · rw [Nat.min_eq_left h]; exact hr
        · rw [Nat.min_eq_right (by omega)]; exact List.getElem_mem _) (fun i v hi hv => by
        by_cases e : i = k
        · subst e
          rw [List.getElem?_eq_getElem hlt] at hv
          cases hv
          exact Nat.min_le_right _ _
        · exact Nat.le_trans (Nat.min_le_left _ _) (hmin i v (by omega) hv))
    refine ⟨r', ?_, h2, h3⟩
    rw [visit_l3, bif_t (dec_t (by simp; omega)), idx_nat, List.getElem?_map, List.getElem?_eq_getElem hlt]
    simp only [Option.map_some, some_bind]
    rw [hmn, wrs k (by omega)]
    exact h1
theorem visit_l2_eq {fu : Nat} {x : GSearch} {S : List Nat} {m p : Nat} (hlen : S.length ≤ 32) (hp : S[p]? = some m) (hno : ∀ i, p < i → S[i]? ≠ some m) : ∀ (n d : Nat), d < n → p + d < S.length →
    visit_l2 fu m x (S.map fun c => ((c : Nat) : Int)) n ((p + d : Nat) : Int) = (cutL (S.map fun c => ((c : Nat) : Int)) (some (p : Int)) none).bind fun l2 => visit_l3 fu x (S.map fun c => ((c : Nat) : Int)) p l2 fu m 0
  | 0, d, h, _ => absurd h (by omega)
  | n + 1, 0, _, hd => by
    rw [visit_l2, idx_nat, List.getElem?_map, Nat.add_zero, hp]
    simp only [Option.map_some, some_bind]
    rw [bif_f (by simp)]
  | n + 1, d + 1, hn, hd => by
    have ih := visit_l2_eq (fu := fu) (x := x) hlen hp hno n d (by omega) (by omega)
    have hlt : p + (d + 1) < S.length := hd
    have hne := hno (p + (d + 1)) (by omega)
    rw [List.getElem?_eq_getElem hlt] at hne
    rw [visit_l2, idx_nat, List.getElem?_map, List.getElem?_eq_getElem hlt]
    simp only [Option.map_some, some_bind]
    rw [bif_t (by simp only [bne_iff_ne, ne_eq]; exact fun h => hne (by rw [cast_inj h])), wr64 (by omega) (by omega), show (((p + (d + 1) : Nat) : Int) - 1) = ((p + d : Nat) : Int) from by omega]
    exact ih
theorem cutL_drop {α : Type} {l : List α} {p : Nat} (hp : p ≤ l.length) : cutL l (some (p : Int)) none = some (l.drop p) := by
  unfold cutL cutOk
  simp only [Option.getD_some, Option.getD_none]
  rw [if_pos (by omega)]
  simp
theorem cutL_take {α : Type} {l : List α} {p : Nat} (hp : p ≤ l.length) : cutL l none (some (p : Int)) = some (l.take p) := by
  unfold cutL cutOk
  simp only [Option.getD_some, Option.getD_none]
  rw [if_pos (by omega)]
  simp
theorem visit_end {fu n : Nat} (hfu : 40 ≤ fu) {g : GGraph} {x : GSearch} {l : List Int} {s t : Srch} {G : List Nat} {m : Nat} {ds : Nat → Prop} (hm : m < 32) (hg : x.g = g) (hA : Abs x l t) (h : LI (DE g) s G m t ds) (hall : ∀ d, DE g m d → ds d) {rec0 : GSearch → List Int → Int → Option (GSearch × List Int)} {xs : List Int} {k : Int} (hk : ¬ k < (xs.length : Int)) :
    ∃ x' l' t', visit_l1 fu m rec0 xs (n + 1) x l k = some (x', l') ∧ x'.g = g ∧ Abs x' l' t' ∧ Post (DE g) s t' m G := by
  rw [visit_l1, bif_f (dec_f hk), inR_ok (by omega) (by omega), some_bind, idxI hm, some_bind, some_bind, idxI hm, some_bind, hA.low m hm, hA.mark m hm]
  by_cases hlow : t.low m = t.mark m
  · rw [bif_f (by simp [hlow])]
    obtain ⟨new, hst, hnew⟩ := h.stack
    have hlen := stack_len h.inv
    have hsl : t.stack.length = s.stack.length + (new.length + 1) := by rw [hst]; simp
    have hp : t.stack[s.stack.length]? = some m := by rw [hst]; simp
    have hno : ∀ i, s.stack.length < i → t.stack[i]? ≠ some m := fun i hi he => by
      obtain ⟨h1, h2⟩ := List.getElem?_eq_some_iff.1 he
      obtain ⟨h3, h4⟩ := List.getElem?_eq_some_iff.1 hp
      have := List.pairwise_iff_getElem.1 h.inv.sorted s.stack.length i h3 h1 hi
      rw [h2, h4] at this
      omega
    have hlm : l = t.stack.map fun c => ((c : Nat) : Int) := hA.stack
    subst hlm
    have e1 := visit_l2_eq (fu := fu) (x := x) (S := t.stack) (m := m) (p := s.stack.length) hlen hp hno fu new.length (by omega) (by omega)
    have e0 : IntKind.wrap .i64 (((t.stack.map fun c => ((c : Nat) : Int)).length : Int) - 1) = ((s.stack.length + new.length : Nat) : Int) := by
      rw [List.length_map, wr64 (by omega) (by omega)]; omega
    have hcut : cutL (t.stack.map fun c => ((c : Nat) : Int)) (some (s.stack.length : Int)) none = some ((m :: new).map fun c => ((c : Nat) : Int)) := by
      rw [cutL_drop (by rw [List.length_map]; omega), hst, ← List.map_drop, List.drop_left]
    have hC : ∀ c ∈ m :: new, c < 32 := fun c hc => h.inv.lt c (h.inv.pos c (by rw [hst]; exact List.mem_append_right _ hc))
    have hCl : (m :: new).length ≤ 32 := by rw [List.length_cons]; omega
    rw [e0, e1, hcut, some_bind]
    obtain ⟨r, h3, h4, h5⟩ := visit_l3_eq (fu := fu) (x := x) hcut (m :: new) hCl fu (m :: new).length 0 m (by omega) (by omega) List.mem_cons_self (fun i v hi => by omega)
    have h3 : visit_l3 fu x (t.stack.map fun c => ((c : Nat) : Int)) (s.stack.length : Int) ((m :: new).map fun c => ((c : Nat) : Int)) fu m 0 = _ := h3
    rw [h3]
    obtain ⟨x', k1, k2, k3, k4, k5, k6, k7⟩ := visit_l4_eq (l := t.stack.map fun c => ((c : Nat) : Int)) (y174 := (s.stack.length : Int)) (r := r) (m :: new) hC hCl fu (m :: new).length 0 x (by omega) (by omega)
    have k1 : visit_l4 (t.stack.map fun c => ((c : Nat) : Int)) (s.stack.length : Int) r ((m :: new).map fun c => ((c : Nat) : Int)) fu x 0 = _ := k1
    rw [k1, cutL_take (by rw [List.length_map]; omega), some_bind]
    rw [List.drop_zero] at k6 k7
    refine ⟨_, _, { t with ring := fun v => if v ∈ m :: new then r else t.ring v, stack := s.stack }, rfl, k2.trans hg, ⟨fun j hj => ?_, fun j hj => ?_, fun j hj => ?_, fun j hj => ?_, ?_, ?_⟩, ?_⟩
    · show iat x'.mark_ j = _
      rw [k3]; exact hA.mark j hj
    · show iat x'.low j = _
      rw [k4]; exact hA.low j hj
    · show iat x'.ring j = ((if j ∈ m :: new then r else t.ring j : Nat) : Int)
      rw [k6 j, hA.ring j hj]
      split <;> rfl
    · show bat x'.on_ j = decide (j ∈ s.stack)
      rw [k7 j, hA.on j hj, hst]
      by_cases hj2 : j ∈ m :: new
      · rw [if_pos hj2]
        symm
        rw [decide_eq_false_iff_not]
        intro hs
        have := h.new hst hj2
        have := h.old hs
        omega
      · rw [if_neg hj2]
        congr 1
        rw [List.mem_append]
        simp [hj2]
    · show (t.stack.map fun c => ((c : Nat) : Int)).take s.stack.length = _
      rw [hst, List.map_append, List.take_left' (by simp)]
    · show x'.next = _
      rw [k5]; exact hA.next
    · exact h.pop hall hlow hst (fun v hv => if_pos hv) (fun v hv => if_neg hv) h4 h5
  · rw [bif_t (by simp only [bne_iff_ne, ne_eq]; exact fun e => hlow (cast_inj e))]
    exact ⟨x, l, t, rfl, hg, hA, h.keep hall hlow⟩
theorem visit_l1_eq {fu n N : Nat} {g : GGraph} (hN : Small g N) (hfu : N + 40 ≤ fu) (hV : VOk g fu n) {s : Srch} {G : List Nat} {m : Nat} (hm : m < 32) (hwh : wh s.mark ≤ n + 1) : ∀ (q r k : Nat) (x : GSearch) (l : List Int) (t : Srch), (depsAt g m).length = k + r → r < q → x.g = g → Abs x l t →
    LI (DE g) s G m t (fun d => d < 32 ∧ (d : Int) ∈ (depsAt g m).take k) → ∃ x' l' t', visit_l1 fu m (visit_r fu n) (depsAt g m) q x l k = some (x', l') ∧ x'.g = g ∧ Abs x' l' t' ∧ Post (DE g) s t' m G
  | 0, r, k, x, l, t, _, h, _, _, _ => absurd h (by omega)
  | q + 1, 0, k, x, l, t, hk, _, hg, hA, hL => visit_end (by omega) hm hg hA hL (fun d hd => ⟨hd.2.2, by rw [List.take_of_length_le (by omega)]; exact hd.2.1⟩) (by omega)
  | q + 1, r + 1, k, x, l, t, hk, hq, hg, hA, hL => by
    have hlt : k < (depsAt g m).length := by omega
    have hlen := (hN m).2
    have ih := fun x l t h1 h2 h3 => visit_l1_eq (s := s) (G := G) hN hfu hV hm hwh q r (k + 1) x l t (by omega) (by omega) h1 h2 h3
    have htake : (depsAt g m).take (k + 1) = (depsAt g m).take k ++ [(depsAt g m)[k]] := List.take_succ_eq_append_getElem hlt
    have hmem : (depsAt g m)[k] ∈ depsAt g m := List.getElem_mem _
    rw [visit_l1, bif_t (dec_t (by omega)), idx_nat, List.getElem?_eq_getElem hlt, some_bind]
    simp only [visit_j2, visit_j1, wrs k (by omega)]
    rw [htake] at ih
    generalize (depsAt g m)[k] = y at ih hmem ⊢
    rcases int_cases y with ⟨d, hd, rfl⟩ | hy
    · have hset : ∀ v : Nat, (v < 32 ∧ (v : Int) ∈ (depsAt g m).take k ++ [(d : Int)]) → ((v < 32 ∧ (v : Int) ∈ (depsAt g m).take k) ∨ v = d) := fun v ⟨h1, h2⟩ => by
        rcases List.mem_append.1 h2 with h3 | h3
        · exact .inl ⟨h1, h3⟩
        · exact .inr (cast_inj (by simpa using h3))
      have hE : DE g m d := ⟨hm, hmem, hd⟩
      rw [bif_f (dec_f (by omega)), bif_f (dec_f (by omega)), inR_ok (by omega) (by omega), some_bind, idxI hd, some_bind, hA.mark d hd]
      by_cases h0 : t.mark d = 0
      · rw [bif_t (by simp [h0])]
        have hmm : m ∈ t.stack := by obtain ⟨new, hst, _⟩ := hL.stack; rw [hst]; simp
        have hw2 : wh t.mark ≤ n := by
          have h1 := wh_updN (x := 1) hm hL.white (by omega)
          have h2 : wh t.mark ≤ wh (updN s.mark m 1) := wh_mono fun v hv => by
            by_cases e : v = m
            · subst e; rw [hL.nmark]; omega
            · rw [updN_other _ _ e] at hv
              rw [hL.ext.mark_old v hv]; exact hv
          omega
        obtain ⟨x', l', t', h1, h2, h3, h4⟩ := hV x l t (m :: G) d hg hA hL.inv h0 hd (fun a ha => by
          rcases List.mem_cons.1 ha with rfl | ha
          · exact Path.one hE
          · have h5 := hL.old (hL.was.gray a ha)
            exact (hL.inv.reach a (List.mem_cons_of_mem _ ha) m hmm (by omega)).tail hE) hw2
        rw [h1, some_bind]
        simp only
        simp only [inR_ok (show (0 : Int) ≤ (m : Int) by omega) (show (m : Int) < 32 by omega), idxI hm, idxI hd, setV_ok hm, some_bind]
        have hL2 := (hL.visit h0 hE h4).sub hset
        refine ih _ _ { t' with low := updN t'.low m (min (t'.low m) (t'.low d)) } h2 ⟨h3.mark, fun j hj => ?_, h3.ring, h3.on, h3.stack, h3.next⟩ hL2
        show iat (x'.low.set m _) j = ((updN t'.low m (min (t'.low m) (t'.low d)) j : Nat) : Int)
        rw [iat_set hm, h3.low m hm, h3.low d hd]
        by_cases e : m = j
        · subst e
          rw [if_pos rfl, updN_same]
          by_cases h : t'.low m ≤ t'.low d
          · rw [Nat.min_eq_left h, Int.min_eq_left (by omega)]
          · rw [Nat.min_eq_right (by omega), Int.min_eq_right (by omega)]
        · rw [if_neg e, updN_other _ _ (fun h => e h.symm)]
          exact h3.low j hj
      · rw [bif_f (by simp; omega), some_bind, idxB hd, some_bind, hA.on d hd]
        by_cases hs : d ∈ t.stack
        · rw [bif_t (dec_t hs)]
          simp only [inR_ok (show (0 : Int) ≤ (m : Int) by omega) (show (m : Int) < 32 by omega), idxI hm, setV_ok hm, some_bind]
          have hL2 := (hL.on hs hE).sub hset
          refine ih _ _ { t with low := updN t.low m (min (t.low m) (t.mark d)) } hg ⟨hA.mark, fun j hj => ?_, hA.ring, hA.on, hA.stack, hA.next⟩ hL2
          show iat (x.low.set m _) j = ((updN t.low m (min (t.low m) (t.mark d)) j : Nat) : Int)
          rw [iat_set hm, hA.low m hm]
          by_cases e : m = j
          · subst e
            rw [if_pos rfl, updN_same]
            by_cases h : t.low m ≤ t.mark d
            · rw [Nat.min_eq_left h, Int.min_eq_left (by omega)]
            · rw [Nat.min_eq_right (by omega), Int.min_eq_right (by omega)]
          · rw [if_neg e, updN_other _ _ (fun h => e h.symm)]
            exact hA.low j hj
        · rw [bif_f (dec_f hs)]
          exact ih _ _ _ hg hA ((hL.skip (by omega) hs).sub hset)
    · have hset : ∀ v : Nat, (v < 32 ∧ (v : Int) ∈ (depsAt g m).take k ++ [y]) → (v < 32 ∧ (v : Int) ∈ (depsAt g m).take k) := fun v ⟨h1, h2⟩ => by
        rcases List.mem_append.1 h2 with h3 | h3
        · exact ⟨h1, h3⟩
        · have : (v : Int) = y := by simpa using h3
          exact absurd (show 0 ≤ y ∧ y < 32 by omega) hy
      have := ih x l t hg hA (hL.sub hset)
      by_cases h0 : y < 0
      · rw [bif_t (dec_t h0)]; exact this
      · rw [bif_f (dec_f h0), bif_t (dec_t (by omega))]; exact this
theorem visit_ok_all {fu N : Nat} {g : GGraph} (hN : Small g N) (hfu : N + 40 ≤ fu) : ∀ n, VOk g fu n
  | 0 => fun x l t G m _ _ _ h0 hm _ hw => by
    have := wh_updN (x := 1) hm h0 (by omega)
    omega
  | n + 1 => fun x l t G m hg hA hI h0 hm hG hw => by
    have hc := hI.cnt
    have hw1 := wh_updN (x := 1) hm h0 (by omega)
    have hn : IntKind.wrap .i64 (x.next + 1) = ((t.next + 1 : Nat) : Int) := by rw [hA.next, wr64 (by omega) (by omega)]; omega
    have hsl := stack_len hI
    have hll : l.length = t.stack.length := by rw [hA.stack]; simp
    have hin : inR (m : Int) 32 = some () := inR_ok (by omega) (by omega)
    have happ : app l [(m : Int)] = some (l ++ [(m : Int)]) := app_ok (a := l) (b := [(m : Int)]) (len_bytes (show l.length ≤ 100 by omega))
    rw [visit_r]
    simp only [some_bind, hin, idxI hm, hn, setV_ok hm, happ, idxB hm]
    rw [hg, idxD hm, some_bind]
    have hL := LI.start hI hm h0 hG
    refine visit_l1_eq hN hfu (visit_ok_all hN hfu n) hm hw fu (depsAt g m).length 0 _ _ (startT t m) (by omega) (by have := (hN m).1; omega) rfl ⟨fun j hj => ?_, fun j hj => ?_, hA.ring, fun j hj => ?_, ?_, rfl⟩ (hL.sub fun d hd => by simp at hd)
    · show iat (x.mark_.set m _) j = ((updN t.mark m (t.next + 1) j : Nat) : Int)
      rw [iat_set hm]
      by_cases e : m = j
      · subst e; rw [if_pos rfl, updN_same]
      · rw [if_neg e, updN_other _ _ (fun h => e h.symm)]; exact hA.mark j hj
    · show iat (x.low.set m _) j = ((updN t.low m (t.next + 1) j : Nat) : Int)
      rw [iat_set hm]
      by_cases e : m = j
      · subst e; rw [if_pos rfl, updN_same]
      · rw [if_neg e, updN_other _ _ (fun h => e h.symm)]; exact hA.low j hj
    · show bat (x.on_.set m true) j = decide (j ∈ t.stack ++ [m])
      rw [bat_set hm, hA.on j hj]
      by_cases e : m = j
      · subst e; simp
      · have e2 : ¬ j = m := fun h => e h.symm
        simp [e, e2]
    · show l ++ [(m : Int)] = (t.stack ++ [m]).map _
      rw [hA.stack]; simp
theorem visitD_eq {fu N : Nat} {g : GGraph} (hN : Small g N) (hfu : N + 40 ≤ fu) {m : Nat} (hm : m < 32) : ∃ x' l', visitD fu { g := g, mark_ := Zr.zd, low := Zr.zd, on_ := Zr.zd, stack := Zr.zd, ring := Zr.zd, next := Zr.zd } [] m = some (x', l') ∧ x'.g = g ∧
    (∀ k, k < 32 → (0 < iat x'.mark_ k ↔ Path (DE g) m k)) ∧ (∀ k, k < 32 → 0 ≤ iat x'.mark_ k) ∧ ∀ k, k < 32 → Path (DE g) m k → ∃ r : Nat, iat x'.ring k = r ∧ Least (DE g) k r := by
  let t0 : Srch := ⟨fun _ => 0, fun _ => 0, fun _ => 0, [], 0⟩
  have hI : Inv (DE g) t0 [] := Inv.empty (fun _ => rfl) rfl rfl
  have hw : wh t0.mark ≤ fu := by have := hI.cnt; omega
  obtain ⟨x', l', t', h1, h2, h3, h4⟩ := visit_ok_all hN hfu fu { g := g, mark_ := Zr.zd, low := Zr.zd, on_ := Zr.zd, stack := Zr.zd, ring := Zr.zd, next := Zr.zd } [] t0 [] m rfl
    ⟨fun k _ => iat_zero k, fun k _ => iat_zero k, fun k _ => iat_zero k, fun k _ => by rw [bat_zero]; rfl, rfl, rfl⟩ hI rfl hm (by simp) hw
  obtain ⟨h5, h6⟩ := h4.final fun _ => rfl
  refine ⟨x', l', h1, h2, fun k hk => ?_, fun k hk => ?_, fun k hk hp => ⟨t'.ring k, h3.ring k hk, h6 k hp⟩⟩
  · rw [h3.mark k hk, ← h5 k]; omega
  · rw [h3.mark k hk]; omega
end Go.Proofs.Ytopgdemmdcipcaa
