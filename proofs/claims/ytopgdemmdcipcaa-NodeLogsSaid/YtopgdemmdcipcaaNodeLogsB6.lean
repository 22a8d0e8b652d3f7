/- What the proof of NodeLogs rests on, part 6: rules of walks, what functions compute, and plain laws of it. -/
import Derived.Test.YtopgdemmdcipcaaNodeLogsB5
namespace Go.Proofs.Ytopgdemmdcipcaa
open Go.RowKit
open Rep (rep)
set_option linter.unusedVariables false
def keepTakes_j1 (c20 : Bool) : Option Bool :=
 some c20
def keepTakesD (fu : Nat) : Option Bool :=
 (some ({ entries := Zr.zd, order := Zr.zd, values := Zr.zd } : GNode)).bind fun d2 =>
 (some ({ kind := 2, key := 1, n := 9 } : GOp)).bind fun d4 =>
 (some ({ kind := 3, node := 3, id := 4, ops := ([d4] : List GOp), deps := Zr.zd, at_ := Zr.zd, vals := Zr.zd } : GFrame)).bind fun d8 =>
 (nodeTakeD fu d2 3 d8).bind fun r11 =>
 (some r11.1).bind fun d16 =>
 (bif r11.2.2 == 0 then
 (bif (r11.2.1.length : Int) == 2 then
 (idxV d16.values 1).bind fun x26 =>
 (bif x26 == 9 then
 keepTakes_j1 ((d16.order.length : Int) == 1)
 else
 keepTakes_j1 false)
 else
 keepTakes_j1 false)
 else
 keepTakes_j1 false)
set_option maxRecDepth 100000 in
set_option maxHeartbeats 4000000 in
theorem keepTakes_ok {M : Mm} {w : World} {fu : Nat} {r : Bool} (hA : Agree M w)  (hz : keepTakesD fu = some r) :
    Calls Try.prog 25 #[] w (GivesV w (.bool r)) := by
 refine calls_W Try.func25 rfl 32 rfl rfl (by kernel_rfl) fun T hT => ?_
 clear hT
 have hE := Mm.ext.refl w.heap.size noX M
 have hS : St w noX M [] w := St.start hA
 rw [keepTakesD] at hz
 refine W_seq <|W_reg <|WL_y (Y_assign (.bool false) rfl) ?_
 refine WL_nil (nm_then ?_)
 refine W_seq <|W_reg ?_
 obtain ⟨d2, hd1, hz⟩ := bind_ok hz
 obtain ⟨cs1, hf1, ha1⟩ : ∃ cs, fillZ (([(0, 192), (192, 1), (193, 8)] : List (Nat × Nat))[·]?) (Zr.zc GNode) [] = some cs ∧ rep M cs d2 := ⟨_, fz_nil, rep_eq (x := ({ entries := Zr.zd, order := Zr.zd, values := Zr.zd } : GNode)) (Zr.zr : rep M (Zr.zc GNode) (Zr.zd : GNode)) hd1⟩
 refine WL_y (Y_build [] tb48 bp0 hf1) ?_
 have k3_0 := GOp.w0 (Zr.zr : rep M (Zr.zc GOp) (Zr.zd : GOp)) (show rep M [Value.int .i64 2] (2 : Int) from rfl)
 have k3_1 := GOp.w1 k3_0 (show rep M [Value.int .i64 1] (1 : Int) from rfl)
 have k3_2 := GOp.w2 k3_1 (show rep M [Value.int .i64 9] (9 : Int) from rfl)
 obtain ⟨d4, hd3, hz⟩ := bind_ok hz
 obtain ⟨cs3, hf3, ha3⟩ : ∃ cs, fillZ (([(0, 1), (1, 1), (2, 1)] : List (Nat × Nat))[·]?) (Zr.zc GOp) [(0, .int .i64 2), (1, .int .i64 1), (2, .int .i64 9)] = some cs ∧ rep M cs d4 := ⟨_, (fz_cons (Zr.zr : rep M (Zr.zc GOp) (Zr.zd : GOp)) rfl rfl (Rep.len (show rep M [Value.int .i64 2] (2 : Int) from rfl)) (by decide) (fz_cons k3_0 rfl rfl (Rep.len (show rep M [Value.int .i64 1] (1 : Int) from rfl)) (by decide) (fz_cons k3_1 rfl rfl (Rep.len (show rep M [Value.int .i64 9] (9 : Int) from rfl)) (by decide) fz_nil))), rep_eq (x := ({ kind := 2, key := 1, n := 9 } : GOp)) k3_2 hd3⟩
 refine WL_y (Y_build [(0, .int .i64 2), (1, .int .i64 1), (2, .int .i64 9)] tb78 (bpc rfl (bpc rfl (bpc rfl bp0))) hf3) ?_
 refine WL_c (O_bslice (α := GOp) (l := ([d4] : List GOp)) [.agg cs3.toArray] tl22 (bpc rfl bp0) rfl rfl (by decide) (by decide) (by decide) hS (brc ha3 br0) ?_)
 intro v6 M6 w5 hx6 hv6 hS
 replace ha1 := Rep.mono hx6.1 ha1
 replace ha3 := Rep.mono hx6.1 ha3
 replace hE := Mm.ext.trans hE hx6
 have k7_0 := GFrame.w0 (Zr.zr : rep M6 (Zr.zc GFrame) (Zr.zd : GFrame)) (show rep M6 [Value.int .i64 3] (3 : Int) from rfl)
 have k7_1 := GFrame.w1 k7_0 (show rep M6 [Value.int .i64 3] (3 : Int) from rfl)
 have k7_2 := GFrame.w2 k7_1 (show rep M6 [Value.int .i64 4] (4 : Int) from rfl)
 have k7_3 := GFrame.w3 k7_2 (repL_rep hv6)
 obtain ⟨d8, hd7, hz⟩ := bind_ok hz
 obtain ⟨cs7, hf7, ha7⟩ : ∃ cs, fillZ (([(0, 1), (1, 1), (2, 1), (3, 1), (4, 1), (5, 1), (6, 1)] : List (Nat × Nat))[·]?) (Zr.zc GFrame) [(0, .int .i64 3), (1, .int .i64 3), (2, .int .i64 4), (3, v6)] = some cs ∧ rep M6 cs d8 := ⟨_, (fz_cons (Zr.zr : rep M6 (Zr.zc GFrame) (Zr.zd : GFrame)) rfl rfl (Rep.len (show rep M6 [Value.int .i64 3] (3 : Int) from rfl)) (by decide) (fz_cons k7_0 rfl rfl (Rep.len (show rep M6 [Value.int .i64 3] (3 : Int) from rfl)) (by decide) (fz_cons k7_1 rfl rfl (Rep.len (show rep M6 [Value.int .i64 4] (4 : Int) from rfl)) (by decide) (fz_cons k7_2 rfl (repL_cells hv6) (Rep.len (repL_rep hv6)) (by decide) fz_nil)))), rep_eq (x := ({ kind := 3, node := 3, id := 4, ops := ([d4] : List GOp), deps := Zr.zd, at_ := Zr.zd, vals := Zr.zd } : GFrame)) k7_3 hd7⟩
 refine WL_y (Y_build [(0, .int .i64 3), (1, .int .i64 3), (2, .int .i64 4), (3, v6)] tb38 (bpc rfl (bpc rfl (bpc rfl (bpc rfl bp0)))) hf7) ?_
 obtain ⟨r11, hr10, hz⟩ := bind_ok hz
 refine WL_c (O_mem (vs := [.agg cs1.toArray, .int .i64 3, .agg cs7.toArray]) (rv := (fun M' u => ∃ c0 v1, u = .tuple #[.agg c0.toArray, v1, .int .i64 r11.2.2] ∧ rep M' c0 r11.1 ∧ repL M' v1 r11.2.1)) cb17 (args3 rfl rfl rfl) hS (nodeTake_ok hS.agree ha1 ha7 hr10) ?_)
 intro u10 M10 w9 hx10 hu10 hS
 obtain ⟨c10_0, v10_1, hq10, f10_0, f10_1⟩ := hu10
 subst hq10
 replace ha1 := Rep.mono hx10.1 ha1
 replace ha3 := Rep.mono hx10.1 ha3
 replace hv6 := repL.mono hx10.1 hv6
 replace ha7 := Rep.mono hx10.1 ha7
 replace hE := Mm.ext.trans hE hx10
 refine WL_y (Y_move (.tuple #[.agg c10_0.toArray, v10_1, .int .i64 r11.2.2]) rfl) <|WL_y (Y_extract (v := .agg c10_0.toArray) rfl rfl) <|WL_y (Y_extract (v := v10_1) rfl rfl) <|WL_y (Y_extract (v := .int .i64 r11.2.2) rfl rfl) ?_
 refine WL_c (O_alloc tz48 hS ?_)
 intro b13 w12 hb13 hS
 replace hS : St w noX M10 [.box b13 (Zr.zc GNode) 48] w12 := hS
 have zb13 : rep M10 (Zr.zc GNode) (Zr.zd : GNode) := Zr.zr
 have hw15 : (c10_0 : List Value).length = 201 := Rep.len f10_0
 have hl15 : ((Zr.zc GNode)).length = 201 := Rep.len zb13
 obtain ⟨d16, hd15, hz⟩ := bind_ok hz
 have hb15 : rep M10 (pt (Zr.zc GNode) (0) c10_0) d16 := rep_eq (rep_whole (k := 201) (by rw [pt_length (by omega)]; exact hl15) (rep_leaf rfl f10_0 (by omega))) hd15
 generalize hg15 : (pt (Zr.zc GNode) (0) c10_0) = cs15 at hb15
 refine WL_c (O_st (j := 0) (v := .agg c10_0.toArray) (ws := c10_0) hS rfl (by kernel_rfl) rfl rfl rfl hw15 (Rep.one f10_0) (by omega) ?_)
 rw [hg15]
 clear hg15
 intro w14 hS
 replace hS : St w noX M10 [.box b13 cs15 48] w14 := hS
 refine WL_d 2 rfl ?_
 refine WL_nil (nm_then ?_)
 refine W_seqJ (fun T' w' => ∃ M18 c20, Mm.ext w.heap.size noX M10 M18 ∧ St w noX M18 [.box b13 cs15 48] w' ∧ T' 0 = .bool c20 ∧ keepTakes_j1 c20 = some r) ?_ ?_
 have hF22 := Mm.ext.refl w.heap.size noX M10
 refine W_reg <|WL_y (Y_move (.int .i64 r11.2.2) rfl) <|WL_y (Y_eql rfl rfl) <|WL_y (Y_move (.bool (r11.2.2 == 0)) rfl) ?_
 rcases ic hz with ⟨hc23, hz⟩ | ⟨hc23, hz⟩ <;> rw [hc23]
 refine WL_gy rfl rfl (Y_move (v10_1) rfl) ?_
 obtain ⟨a24, c24, hv24, _⟩ := repL_shape f10_1
 refine WL_gy rfl rfl (Y_lenL Try.underlying25 (tr2 hv24 rfl)) <|WL_gy rfl rfl (Y_eql rfl rfl) <|WL_d 2 rfl ?_
 rcases ic hz with ⟨hc25, hz⟩ | ⟨hc25, hz⟩ <;> rw [hc25]
 refine WL_gy rfl rfl (Y_fa fa48_2 rfl) <|WL_gy rfl rfl (Y_ixA ia46 rfl rfl (by decide) (by decide)) ?_
 obtain ⟨x26, hx27, hz⟩ := bind_ok hz
 refine WL_gy rfl rfl (Y_ld1 (.int .i64 x26) ts3 rfl (hS.bvB 0 rfl) (vp (k := 1) rfl rfl (GNode.p2 (rep_root (k := 201) rfl hb15)) hx27)) <|WL_gy rfl rfl (Y_eql rfl rfl) <|WL_d 2 rfl ?_
 rcases ic hz with ⟨hc28, hz⟩ | ⟨hc28, hz⟩ <;> rw [hc28]
 refine WL_gy rfl rfl (Y_fa fa48_1 rfl) ?_
 obtain ⟨v29, ev29, hv29⟩ := (GNode.p1 (rep_root (k := 201) rfl hb15))
 refine WL_gy rfl rfl (Y_ld1 v29 ts27 rfl (hS.bvB 0 rfl) ev29) ?_
 obtain ⟨a30, c30, hv30, _⟩ := repL_shape hv29
 refine WL_gy rfl rfl (Y_lenL Try.underlying27 (tr2 hv30 rfl)) <|WL_gy rfl rfl (Y_eql rfl rfl) <|WL_d 2 rfl ?_
 refine WL_nil (nm_then ?_)
 exact ⟨M10, ((d16.order.length : Int) == 1), hF22, hS, rfl, hz⟩
 refine WL_d 6 rfl ?_
 refine WL_nil (nm_then ?_)
 exact ⟨M10, false, hF22, hS, rfl, hz⟩
 refine WL_d 12 rfl ?_
 refine WL_nil (nm_then ?_)
 exact ⟨M10, false, hF22, hS, rfl, hz⟩
 refine WL_d 17 rfl ?_
 refine WL_nil (nm_then ?_)
 exact ⟨M10, false, hF22, hS, rfl, hz⟩
 rintro T19 w17 ⟨M18, c20, hx21, hS, hT19_0, hz⟩
 replace hb15 := Rep.mono hx21.1 hb15
 replace hE := Mm.ext.trans hE hx21
 rw [keepTakes_j1] at hz
 cases hz
 exact W_ret (R_t1 rfl hT19_0 ⟨rfl, (St.dropB hS hb13).kept⟩)
def keepSameEntry_j1 (c10 : Bool) : Option Bool :=
 some c10
def keepSameEntryD (fu : Nat) (x1 : GEntry) (x2 : GEntry) : Option Bool :=
 (bif x1.state == x2.state then
 (keepSameOpsD fu x1.ops x2.ops).bind fun r18 =>
 (bif r18 then
 (keepSameNumbersD fu x1.first x2.first).bind fun r24 =>
 (bif r24 then
 (keepSameNumbersD fu x1.deps x2.deps).bind fun r30 =>
 (bif r30 then
 (keepSameNumbersD fu x1.at_ x2.at_).bind fun r36 =>
 (bif r36 then
 (keepSameNumbersD fu x1.values x2.values).bind fun r42 =>
 keepSameEntry_j1 r42
 else
 keepSameEntry_j1 false)
 else
 keepSameEntry_j1 false)
 else
 keepSameEntry_j1 false)
 else
 keepSameEntry_j1 false)
 else
 keepSameEntry_j1 false)
set_option maxRecDepth 100000 in
set_option maxHeartbeats 4000000 in
theorem keepSameEntry_ok {M : Mm} {w : World} {cx1 : List Value} {cx2 : List Value} {x1 : GEntry} {x2 : GEntry} {fu : Nat} {r : Bool} (hA : Agree M w) (hcx1 : rep M cx1 x1) (hcx2 : rep M cx2 x2) (hz : keepSameEntryD fu x1 x2 = some r) :
    Calls Try.prog 29 #[.agg cx1.toArray, .agg cx2.toArray] w (GivesV w (.bool r)) := by
 refine calls_W Try.func29 rfl 45 rfl rfl (by kernel_rfl) fun T hT => ?_
 have hT_0 : T 0 = .agg cx1.toArray := hT 0
 have hT_1 : T 1 = .agg cx2.toArray := hT 1
 clear hT
 have hE := Mm.ext.refl w.heap.size noX M
 have hS : St w noX M [] w := St.start hA
 rw [keepSameEntryD] at hz
 refine W_seq <|W_reg ?_
 refine WL_c (O_box (v := .agg cx1.toArray) (cs := cx1) hT_0 rfl hS ?_)
 intro b4 w3 hb4 hS
 replace hS : St w noX M [.box b4 cx1 44] w3 := hS
 refine WL_c (O_box (v := .agg cx2.toArray) (cs := cx2) hT_1 rfl hS ?_)
 intro b6 w5 hb6 hS
 replace hS : St w noX M [.box b6 cx2 44, .box b4 cx1 44] w5 := hS
 refine WL_y (Y_assign (.bool false) rfl) ?_
 refine WL_nil (nm_then ?_)
 refine W_seqJ (fun T' w' => ∃ M8 c10, Mm.ext w.heap.size noX M M8 ∧ St w noX M8 [.box b6 cx2 44, .box b4 cx1 44] w' ∧ T' 4 = .bool c10 ∧ keepSameEntry_j1 c10 = some r) ?_ ?_
 have hF12 := Mm.ext.refl w.heap.size noX M
 refine W_reg <|WL_y (Y_fa fa44_0 rfl) <|WL_y (Y_ld1 (.int .i64 x1.state) ts3 rfl (hS.bvB 1 rfl) (GEntry.p0 (rep_root (k := 6) rfl hcx1))) <|WL_y (Y_fa fa44_0 rfl) <|WL_y (Y_ld1 (.int .i64 x2.state) ts3 rfl (hS.bvB 0 rfl) (GEntry.p0 (rep_root (k := 6) rfl hcx2))) <|WL_y (Y_eql rfl rfl) <|WL_y (Y_move (.bool (x1.state == x2.state)) rfl) ?_
 rcases ic hz with ⟨hc13, hz⟩ | ⟨hc13, hz⟩ <;> rw [hc13]
 refine WL_gy rfl rfl (Y_fa fa44_1 rfl) ?_
 obtain ⟨v14, ev14, hv14⟩ := (GEntry.p1 (rep_root (k := 6) rfl hcx1))
 refine WL_gy rfl rfl (Y_ld1 v14 ts22 rfl (hS.bvB 1 rfl) ev14) <|WL_gy rfl rfl (Y_fa fa44_1 rfl) ?_
 obtain ⟨v15, ev15, hv15⟩ := (GEntry.p1 (rep_root (k := 6) rfl hcx2))
 refine WL_gy rfl rfl (Y_ld1 v15 ts22 rfl (hS.bvB 0 rfl) ev15) ?_
 obtain ⟨r18, hr17, hz⟩ := bind_ok hz
 refine WL_g rfl rfl (O_val (vs := [v14, v15]) (v := .bool r18) cb28 (args2 rfl rfl) hS (keepSameOps_ok hS.agree hv14 hv15 hr17) ?_)
 intro w16 hS
 refine WL_d 2 rfl ?_
 rcases ic hz with ⟨hc19, hz⟩ | ⟨hc19, hz⟩ <;> rw [hc19]
 refine WL_gy rfl rfl (Y_fa fa44_2 rfl) ?_
 obtain ⟨v20, ev20, hv20⟩ := (GEntry.p2 (rep_root (k := 6) rfl hcx1))
 refine WL_gy rfl rfl (Y_ld1 v20 ts27 rfl (hS.bvB 1 rfl) ev20) <|WL_gy rfl rfl (Y_fa fa44_2 rfl) ?_
 obtain ⟨v21, ev21, hv21⟩ := (GEntry.p2 (rep_root (k := 6) rfl hcx2))
 refine WL_gy rfl rfl (Y_ld1 v21 ts27 rfl (hS.bvB 0 rfl) ev21) ?_
 obtain ⟨r24, hr23, hz⟩ := bind_ok hz
 refine WL_g rfl rfl (O_val (vs := [v20, v21]) (v := .bool r24) cb14 (args2 rfl rfl) hS (keepSameNumbers_ok hS.agree hv20 hv21 hr23) ?_)
 intro w22 hS
 refine WL_d 2 rfl ?_
 rcases ic hz with ⟨hc25, hz⟩ | ⟨hc25, hz⟩ <;> rw [hc25]
 refine WL_gy rfl rfl (Y_fa fa44_3 rfl) ?_
 obtain ⟨v26, ev26, hv26⟩ := (GEntry.p3 (rep_root (k := 6) rfl hcx1))
 refine WL_gy rfl rfl (Y_ld1 v26 ts27 rfl (hS.bvB 1 rfl) ev26) <|WL_gy rfl rfl (Y_fa fa44_3 rfl) ?_
 obtain ⟨v27, ev27, hv27⟩ := (GEntry.p3 (rep_root (k := 6) rfl hcx2))
 refine WL_gy rfl rfl (Y_ld1 v27 ts27 rfl (hS.bvB 0 rfl) ev27) ?_
 obtain ⟨r30, hr29, hz⟩ := bind_ok hz
 refine WL_g rfl rfl (O_val (vs := [v26, v27]) (v := .bool r30) cb14 (args2 rfl rfl) hS (keepSameNumbers_ok hS.agree hv26 hv27 hr29) ?_)
 intro w28 hS
 refine WL_d 2 rfl ?_
 rcases ic hz with ⟨hc31, hz⟩ | ⟨hc31, hz⟩ <;> rw [hc31]
 refine WL_gy rfl rfl (Y_fa fa44_4 rfl) ?_
 obtain ⟨v32, ev32, hv32⟩ := (GEntry.p4 (rep_root (k := 6) rfl hcx1))
 refine WL_gy rfl rfl (Y_ld1 v32 ts27 rfl (hS.bvB 1 rfl) ev32) <|WL_gy rfl rfl (Y_fa fa44_4 rfl) ?_
 obtain ⟨v33, ev33, hv33⟩ := (GEntry.p4 (rep_root (k := 6) rfl hcx2))
 refine WL_gy rfl rfl (Y_ld1 v33 ts27 rfl (hS.bvB 0 rfl) ev33) ?_
 obtain ⟨r36, hr35, hz⟩ := bind_ok hz
 refine WL_g rfl rfl (O_val (vs := [v32, v33]) (v := .bool r36) cb14 (args2 rfl rfl) hS (keepSameNumbers_ok hS.agree hv32 hv33 hr35) ?_)
 intro w34 hS
 refine WL_d 2 rfl ?_
 rcases ic hz with ⟨hc37, hz⟩ | ⟨hc37, hz⟩ <;> rw [hc37]
 refine WL_gy rfl rfl (Y_fa fa44_5 rfl) ?_
 obtain ⟨v38, ev38, hv38⟩ := (GEntry.p5 (rep_root (k := 6) rfl hcx1))
 refine WL_gy rfl rfl (Y_ld1 v38 ts27 rfl (hS.bvB 1 rfl) ev38) <|WL_gy rfl rfl (Y_fa fa44_5 rfl) ?_
 obtain ⟨v39, ev39, hv39⟩ := (GEntry.p5 (rep_root (k := 6) rfl hcx2))
 refine WL_gy rfl rfl (Y_ld1 v39 ts27 rfl (hS.bvB 0 rfl) ev39) ?_
 obtain ⟨r42, hr41, hz⟩ := bind_ok hz
 refine WL_g rfl rfl (O_val (vs := [v38, v39]) (v := .bool r42) cb14 (args2 rfl rfl) hS (keepSameNumbers_ok hS.agree hv38 hv39 hr41) ?_)
 intro w40 hS
 refine WL_d 2 rfl ?_
 refine WL_nil (nm_then ?_)
 exact ⟨M, r42, hF12, hS, rfl, hz⟩
 refine WL_d 7 rfl ?_
 refine WL_nil (nm_then ?_)
 exact ⟨M, false, hF12, hS, rfl, hz⟩
 refine WL_d 14 rfl ?_
 refine WL_nil (nm_then ?_)
 exact ⟨M, false, hF12, hS, rfl, hz⟩
 refine WL_d 21 rfl ?_
 refine WL_nil (nm_then ?_)
 exact ⟨M, false, hF12, hS, rfl, hz⟩
 refine WL_d 28 rfl ?_
 refine WL_nil (nm_then ?_)
 exact ⟨M, false, hF12, hS, rfl, hz⟩
 refine WL_d 35 rfl ?_
 refine WL_nil (nm_then ?_)
 exact ⟨M, false, hF12, hS, rfl, hz⟩
 rintro T9 w7 ⟨M8, c10, hx11, hS, hT9_4, hz⟩
 replace hcx1 := Rep.mono hx11.1 hcx1
 replace hcx2 := Rep.mono hx11.1 hcx2
 replace hE := Mm.ext.trans hE hx11
 rw [keepSameEntry_j1] at hz
 cases hz
 exact W_ret (R_t1 rfl hT9_4 ⟨rfl, (St.dropB (St.dropB hS hb6) hb4).kept⟩)
def keepSameNode_j1 (c37 : Bool) : Option Bool :=
 some c37
def keepSameNode_l1 (fu : Nat) (x1 : GNode) (x2 : GNode) : Nat → Int → Option Bool
 | 0, _ => none
 | n + 1, y10 =>
 (bif decide (y10 < 32) then
 (inR y10 32).bind fun _ =>
 (idxV x1.entries y10).bind fun x21 =>
 (inR y10 32).bind fun _ =>
 (idxV x2.entries y10).bind fun x26 =>
 (keepSameEntryD fu x21 x26).bind fun r31 =>
 (bif !r31 then
 some false
 else
 (keepSameNode_l1 fu x1 x2 n) (IntKind.wrap .i64 (y10 + 1)))
 else
 (keepSameNumbersD fu x1.order x2.order).bind fun r44 =>
 (bif r44 then
 keepSameNode_j1 (decide (x1.values = x2.values))
 else
 keepSameNode_j1 false))
def keepSameNodeD (fu : Nat) (x1 : GNode) (x2 : GNode) : Option Bool :=
 keepSameNode_l1 fu x1 x2 fu 0
set_option maxRecDepth 100000 in
set_option maxHeartbeats 4000000 in
theorem keepSameNode_ok {M : Mm} {w : World} {cx1 : List Value} {cx2 : List Value} {x1 : GNode} {x2 : GNode} {fu : Nat} {r : Bool} (hA : Agree M w) (hcx1 : rep M cx1 x1) (hcx2 : rep M cx2 x2) (hz : keepSameNodeD fu x1 x2 = some r) :
    Calls Try.prog 26 #[.agg cx1.toArray, .agg cx2.toArray] w (GivesV w (.bool r)) := by
 refine calls_W Try.func26 rfl 32 rfl rfl (by kernel_rfl) fun T hT => ?_
 have hT_0 : T 0 = .agg cx1.toArray := hT 0
 have hT_1 : T 1 = .agg cx2.toArray := hT 1
 clear hT
 have hE := Mm.ext.refl w.heap.size noX M
 have hS : St w noX M [] w := St.start hA
 rw [keepSameNodeD] at hz
 refine W_seq <|W_reg ?_
 refine WL_c (O_box (v := .agg cx1.toArray) (cs := cx1) hT_0 rfl hS ?_)
 intro b4 w3 hb4 hS
 replace hS : St w noX M [.box b4 cx1 48] w3 := hS
 refine WL_c (O_box (v := .agg cx2.toArray) (cs := cx2) hT_1 rfl hS ?_)
 intro b6 w5 hb6 hS
 replace hS : St w noX M [.box b6 cx2 48, .box b4 cx1 48] w5 := hS
 refine WL_y (Y_assign (.bool false) rfl) ?_
 refine WL_nil (nm_then ?_)
 refine W_seq <|W_seq <|W_reg <|WL_y (Y_move (.int .i64 0) rfl) ?_
 refine WL_nil (nm_then ?_)
 refine W_block ?_
 refine W_loop (fun k12 T' w' => ∃ M8 y10, Mm.ext w.heap.size noX M M8 ∧ St w noX M8 [.box b6 cx2 48, .box b4 cx1 48] w' ∧ T' 2 = .pointer (some ⟨b4, 0, none⟩) ∧ T' 3 = .pointer (some ⟨b6, 0, none⟩) ∧ T' 6 = .int .i64 y10 ∧ keepSameNode_l1 fu x1 x2 k12 y10 = some r) fu ?_ ?_ ?_
 exact ⟨M, (0 : Int), (Mm.ext.refl _ _ _), hS, rfl, rfl, rfl, hz⟩
 rintro T' w' ⟨_, _, _, _, _, _, _, hz⟩
 rw [keepSameNode_l1] at hz
 cases hz
 intro k12
 rintro T9 w7 ⟨M8, y10, hx14, hS, hT9_2, hT9_3, hT9_6, hz⟩
 replace hcx1 := Rep.mono hx14.1 hcx1
 replace hcx2 := Rep.mono hx14.1 hcx2
 replace hE := Mm.ext.trans hE hx14
 have hF13 := hx14
 rw [keepSameNode_l1] at hz
 obtain ⟨rec11, hrec11⟩ : ∃ f, f = keepSameNode_l1 fu x1 x2 k12 := ⟨_, rfl⟩
 rw [← hrec11] at hz
 refine W_seq <|W_reg <|WL_y (Y_lss hT9_6 rfl) ?_
 refine WL_nil (nm_then ?_)
 refine W_seq ?_
 refine W_cond rfl (fun hc15 => ?_) (fun hc15 => ?_)
 replace hz := bif_ok_t hz hc15
 refine W_skip (nm_then ?_)
 refine W_seq <|W_block <|W_seq <|W_reg <|WL_y (Y_move (.int .i64 y10) hT9_6) <|WL_y (Y_assign (.int .i64 y10) rfl) ?_
 refine WL_nil (nm_then ?_)
 refine W_seq <|W_drawB (Rd M8 [.box b6 cx2 48, .box b4 cx1 48]) (inL []) mixed hS fun w16 hS => ?_
 have hG17 := Mm.ext.refl w.heap.size noX M8
 have hR18 : Rd M8 [.box b6 cx2 48, .box b4 cx1 48] w16 := Rd.of hS hG17 (by simp)
 refine WB_y (i := 0) rfl (by kernel_rfl) rfl (Y_move (.int .i64 y10) rfl) (fun _ => hR18) <|WB_y (i := 1) rfl (by kernel_rfl) rfl (Y_fa fa48_0 hT9_2) (fun _ => hR18) ?_
 obtain ⟨u19, hx20, hz⟩ := bind_ok hz
 obtain ⟨hx20a, hx20b⟩ := inR_some hx20
 refine WB_y (i := 2) rfl (by kernel_rfl) rfl (Y_ixA ia45 rfl rfl hx20a hx20b) (fun _ => hR18) ?_
 obtain ⟨x21, hx22, hz⟩ := bind_ok hz
 have ha23 := (vp (k := 6) rfl rfl (GNode.p0 (rep_root (k := 201) rfl hcx1)) hx22)
 refine WB_ld (i := 3) rfl (by kernel_rfl) rfl (inL_lt rfl) (by kernel_rfl) (by kernel_rfl) (Y_ldn ta44 rfl (bvR 1 rfl) (Rep.len ha23)) hR18 <|WB_y (i := 4) rfl (by kernel_rfl) rfl (Y_move (.int .i64 y10) rfl) (fun _ => hR18) <|WB_y (i := 5) rfl (by kernel_rfl) rfl (Y_fa fa48_0 hT9_3) (fun _ => hR18) ?_
 obtain ⟨u24, hx25, hz⟩ := bind_ok hz
 obtain ⟨hx25a, hx25b⟩ := inR_some hx25
 refine WB_y (i := 6) rfl (by kernel_rfl) rfl (Y_ixA ia45 rfl rfl hx25a hx25b) (fun _ => hR18) ?_
 obtain ⟨x26, hx27, hz⟩ := bind_ok hz
 have ha28 := (vp (k := 6) rfl rfl (GNode.p0 (rep_root (k := 201) rfl hcx2)) hx27)
 refine WB_ld (i := 7) rfl (by kernel_rfl) rfl (inL_lt rfl) (by kernel_rfl) (by kernel_rfl) (Y_ldn ta44 rfl (bvR 0 rfl) (Rep.len ha28)) hR18 ?_
 obtain ⟨r31, hr30, hz⟩ := bind_ok hz
 refine WB_one (i := 8) (by kernel_rfl) rfl (O_val (vs := [.agg (sl cx1 (0 + 0 + Int.toNat y10 * 6) 6).toArray, .agg (sl cx2 (0 + 0 + Int.toNat y10 * 6) 6).toArray]) (v := .bool r31) cb29 (args2 rfl rfl) hS (keepSameEntry_ok hS.agree ha23 ha28 hr30) ?_)
 intro w29 hS
 have hR32 : Rd M8 [.box b6 cx2 48, .box b4 cx1 48] w29 := Rd.of hS hG17 (by simp)
 refine ⟨fun _ => hR32, ?_⟩
 refine WB_y (i := 9) rfl (by kernel_rfl) rfl (Y_not rfl) (fun _ => hR32) ?_
 refine WB_done (by kernel_rfl) (nm_then ?_)
 refine W_cond rfl (fun hc33 => ?_) (fun hc33 => ?_)
 replace hz := bif_ok_t hz hc33
 refine W_seq <|W_reg <|WL_y (Y_assign (.bool false) rfl) ?_
 refine WL_nil (nm_then ?_)
 cases hz
 exact W_ret (rt_blk (rt_then (rt_then (rt_blk (rt_then (R_t1 rfl rfl ⟨rfl, (St.dropB (St.dropB hS hb6) hb4).kept⟩))))))
 replace hz := bif_ok_f hz hc33
 refine W_skip (nm_blk ?_)
 refine (nm_then ?_)
 refine W_reg <|WL_y (Y_add hT9_6 rfl) <|WL_y (Y_move (.int .i64 (IntKind.wrap .i64 (y10 + 1))) rfl) ?_
 refine WL_nil (nm_then ?_)
 exact ⟨M8, (IntKind.wrap .i64 (y10 + 1)), hF13, hS, hT9_2, hT9_3, rfl, (by rw [← hrec11]; exact hz)⟩
 replace hz := bif_ok_f hz hc15
 refine W_exit <|ex_then <|ex_then <|ex_hit ?_
 refine (nm_then ?_)
 refine W_seqJ (fun T' w' => ∃ M35 c37, Mm.ext w.heap.size noX M8 M35 ∧ St w noX M35 [.box b6 cx2 48, .box b4 cx1 48] w' ∧ T' 4 = .bool c37 ∧ keepSameNode_j1 c37 = some r) ?_ ?_
 have hF39 := Mm.ext.refl w.heap.size noX M8
 refine W_reg <|WL_y (Y_fa fa48_1 hT9_2) ?_
 obtain ⟨v40, ev40, hv40⟩ := (GNode.p1 (rep_root (k := 201) rfl hcx1))
 refine WL_y (Y_ld1 v40 ts27 rfl (hS.bvB 1 rfl) ev40) <|WL_y (Y_fa fa48_1 hT9_3) ?_
 obtain ⟨v41, ev41, hv41⟩ := (GNode.p1 (rep_root (k := 201) rfl hcx2))
 refine WL_y (Y_ld1 v41 ts27 rfl (hS.bvB 0 rfl) ev41) ?_
 obtain ⟨r44, hr43, hz⟩ := bind_ok hz
 refine WL_c (O_val (vs := [v40, v41]) (v := .bool r44) cb14 (args2 rfl rfl) hS (keepSameNumbers_ok hS.agree hv40 hv41 hr43) ?_)
 intro w42 hS
 refine WL_y (Y_move (.bool r44) rfl) ?_
 rcases ic hz with ⟨hc45, hz⟩ | ⟨hc45, hz⟩ <;> rw [hc45]
 refine WL_gy rfl rfl (Y_fa fa48_2 hT9_2) ?_
 have ha46 := (GNode.p2 (rep_root (k := 201) rfl hcx1))
 refine WL_gy rfl rfl (Y_ldn ta46 rfl (hS.bvB 1 rfl) (Rep.len ha46)) <|WL_gy rfl rfl (Y_fa fa48_2 hT9_3) ?_
 have ha47 := (GNode.p2 (rep_root (k := 201) rfl hcx2))
 refine WL_gy rfl rfl (Y_ldn ta46 rfl (hS.bvB 0 rfl) (Rep.len ha47)) <|WL_gy rfl rfl (Y_eqA rfl rfl eg46 ha46 ha47) <|WL_d 2 rfl ?_
 refine WL_nil (nm_then ?_)
 exact ⟨M8, (decide (x1.values = x2.values)), hF39, hS, rfl, hz⟩
 refine WL_d 7 rfl ?_
 refine WL_nil (nm_then ?_)
 exact ⟨M8, false, hF39, hS, rfl, hz⟩
 rintro T36 w34 ⟨M35, c37, hx38, hS, hT36_4, hz⟩
 replace hcx1 := Rep.mono hx38.1 hcx1
 replace hcx2 := Rep.mono hx38.1 hcx2
 replace hE := Mm.ext.trans hE hx38
 replace hF13 := Mm.ext.trans hF13 hx38
 rw [keepSameNode_j1] at hz
 cases hz
 exact W_ret (R_t1 rfl hT36_4 ⟨rfl, (St.dropB (St.dropB hS hb6) hb4).kept⟩)
end Go.Proofs.Ytopgdemmdcipcaa
namespace Go.Proofs.Ytopgdemmdcipcaa
open Go.RowKit
open Rep (rep)
theorem keepSameEntryD_refl {fu N : Nat} {e : GEntry} (h : ESz e N) (hf : N ≤ fu) : keepSameEntryD fu e e = some true := by
  unfold keepSameEntryD keepSameEntry_j1
  rw [bif_t (by simp), keepSameOpsD_refl (by have := h.ops.2; omega) (by have := h.ops.1; omega), some_bind, bif_t rfl, keepSameNumbersW_refl (by have := h.first.2; omega) (by have := h.first.1; omega), some_bind, bif_t rfl,
    keepSameNumbersW_refl (by have := h.deps.2; omega) (by have := h.deps.1; omega), some_bind, bif_t rfl, keepSameNumbersW_refl (by have := h.at_.2; omega) (by have := h.at_.1; omega), some_bind, bif_t rfl,
    keepSameNumbersW_refl (by have := h.values.2; omega) (by have := h.values.1; omega), some_bind]
theorem keepSameNode_l1_eq {fu N : Nat} {s : GNode} (h : NSz s N) (hf : N ≤ fu) : ∀ (n m k : Nat), k + m = 32 → m < n → keepSameNode_l1 fu s s n k = some true
  | 0, m, k, _, h => absurd h (by omega)
  | n + 1, 0, k, hk, _ => by
    rw [keepSameNode_l1, bif_f (dec_f (by omega)), keepSameNumbersW_refl (by have := h.order.2; omega) (by have := h.order.1; omega), some_bind, cond_true, keepSameNode_j1, dec_t rfl]
  | n + 1, m + 1, k, hk, hn => by
    have hk32 : k < 32 := by omega
    rw [keepSameNode_l1, bif_t (dec_t (by omega)), inR_ok (by omega) (by omega), some_bind, idxE hk32, some_bind, some_bind, some_bind, keepSameEntryD_refl (h.ent k) hf, some_bind, bif_f (c := !true) rfl, wrs k (by omega)]
    exact keepSameNode_l1_eq h hf n m (k + 1) (by omega) (by omega)
theorem keepSameNodeD_refl {fu N : Nat} {s : GNode} (h : NSz s N) (hf : N + 40 ≤ fu) : keepSameNodeD fu s s = some true := keepSameNode_l1_eq h (by omega) fu 32 0 (by omega) (by omega)
theorem keepTakesD_eq {fu : Nat} (hfu : 120 ≤ fu) : keepTakesD fu = some true := by
  unfold keepTakesD
  rw [some_bind, some_bind, some_bind]
  have h : nodeTakeD fu { entries := Zr.zd, order := Zr.zd, values := Zr.zd } 3 { kind := 3, node := 3, id := 4, ops := [{ kind := 2, key := 1, n := 9 }], deps := Zr.zd, at_ := Zr.zd, vals := Zr.zd } = some (takeN zeroN 3 f9) := nodeTakeD_eq zero_good.sizes (by omega) hfu
  rw [h, some_bind, takeN_f9, some_bind]
  have h4 : eat (commN zeroN f9 1).entries 4 = commE zeroN f9 1 := by
    show eat ((Zr.zd : Vector GEntry 32).setIfInBounds 4 _) 4 = _
    rw [eat_setI (by omega), if_pos rfl]
  have hv : idxV (oneZ (commN zeroN f9 1) 4 1).values 1 = some 9 := by
    unfold oneZ
    rw [h4]
    decide +kernel
  have ha : (answers 1 3 4 (oneZ (commN zeroN f9 1) 4 1)).length = 2 := by
    have h5 : eat (oneZ (commN zeroN f9 1) 4 1).entries 4 = doneE (commE zeroN f9 1) [0] [9] := by
      unfold oneZ
      rw [eat_setI (by omega), if_pos rfl, h4]
      rfl
    unfold answers
    rw [show (4 : Int).toNat = 4 from rfl, h5]
    rfl
  rw [ha, hv]
  rfl
theorem takeN_of {s : GNode} {who : Int} {f : GFrame} (hs : GoodN s) (hw : 0 ≤ who ∧ who < 6) (hn : f.node = who) (hz : frameZ f = 0) : takeN s who f = takeK s who f := by
  unfold takeN
  rw [goodN_iff.2 hs, hz, dec_t hw, hn]
  simp
theorem takeK_ask {s : GNode} {who : Int} {f : GFrame} (h1 : f.kind = 1) (ht : touchesZ f.ops (ofZ who) = true) : takeK s who f = (askN s f (ofZ who), [toldF who f.id (eat (askN s f (ofZ who)).entries f.id.toNat).first], 0) := by
  unfold takeK
  rw [bif_t (by simp [h1]), ht]
  rfl
theorem takeK_commit {s : GNode} {who : Int} {f : GFrame} (h3 : f.kind = 3) : takeK s who f = (commitN s f (ofZ who), answers (ofZ who) who f.id (commitN s f (ofZ who)), 0) := by
  unfold takeK
  rw [bif_f (by simp [h3]), bif_t (by simp [h3])]
theorem takeN_ok {s : GNode} {who : Int} {f : GFrame} (h : (takeN s who f).2.2 = 0) : GoodN s ∧ (0 ≤ who ∧ who < 6) ∧ f.node = who ∧ frameZ f = 0 ∧ ((f.kind = 1 ∧ touchesZ f.ops (ofZ who) = true) ∨ f.kind = 3) := by
  unfold takeN at h
  cases hc : (goodN s && (decide (0 ≤ who ∧ who < 6) && f.node == who))
  · rw [hc] at h
    exact absurd (show (2 : Int) = 0 from h) (by decide)
  · rw [hc, cond_true] at h
    simp only [Bool.and_eq_true, decide_eq_true_eq, beq_iff_eq] at hc
    cases hz : (frameZ f == 0)
    · rw [hz] at h
      have h : frameZ f = 0 := h
      rw [h] at hz
      cases hz
    · rw [hz, cond_true] at h
      refine ⟨goodN_iff.1 hc.1, hc.2.1, hc.2.2, by simpa using hz, ?_⟩
      unfold takeK at h
      cases h1 : (f.kind == 1)
      · rw [h1, cond_false] at h
        cases h3 : (f.kind == 3)
        · rw [h3] at h
          exact absurd (show (3 : Int) = 0 from h) (by decide)
        · exact .inr (by simpa using h3)
      · rw [h1, cond_true] at h
        cases ht : touchesZ f.ops (ofZ who)
        · rw [ht] at h
          exact absurd (show (4 : Int) = 0 from h) (by decide)
        · exact .inl ⟨by simpa using h1, rfl⟩
structure Ex (s t : GNode) : Prop where
  ent : ∀ k, k < 32 → eat t.entries k = eat s.entries k ∨ ((eat s.entries k).state = 2 ∧ ∃ a b, eat t.entries k = doneE (eat s.entries k) a b)
  order : ∃ L, t.order = s.order ++ L
theorem Ex.refl (s : GNode) : Ex s s := ⟨fun _ _ => .inl rfl, [], by simp⟩
theorem Ex.trans {s t u : GNode} (h : Ex s t) (k : Ex t u) : Ex s u := by
  refine ⟨fun j hj => ?_, ?_⟩
  · rcases h.ent j hj with e | ⟨e2, a, b, e⟩
    · rcases k.ent j hj with e' | ⟨e2', a, b, e'⟩
      · exact .inl (e'.trans e)
      · rw [e] at e2' e'
        exact .inr ⟨e2', a, b, e'⟩
    · rcases k.ent j hj with e' | ⟨e2', _⟩
      · exact .inr ⟨e2, a, b, e'.trans e⟩
      · rw [e] at e2'
        exact absurd (show (3 : Int) = 2 from e2') (by decide)
  · obtain ⟨L, h1⟩ := h.order
    obtain ⟨L', h2⟩ := k.order
    exact ⟨L ++ L', by rw [h2, h1, List.append_assoc]⟩
theorem Ex.one {s : GNode} {n : Nat} (hn : n < 32) (h2 : (eat s.entries n).state = 2) (sh : Int) : Ex s (oneZ s n sh) := by
  refine ⟨fun k hk => ?_, _, rfl⟩
  show eat (s.entries.setIfInBounds n _) k = _ ∨ _ ∧ ∃ a b, eat (s.entries.setIfInBounds n _) k = _
  rw [eat_setI hn]
  by_cases e : n = k
  · subst e
    rw [if_pos rfl]
    exact .inr ⟨h2, _, _, rfl⟩
  · rw [if_neg e]
    exact .inl rfl
theorem Ex.step {s : GNode} {m : Nat} (hm : m < 32) (sh : Int) : Ex s (stepZ sh s m) := by
  unfold stepZ
  cases h2 : ((eat s.entries m).state == 2)
  · exact .refl s
  · exact .one hm (by simpa using h2) sh
theorem Ex.run (sh : Int) : ∀ (l : List Nat) (s : GNode), (∀ m ∈ l, m < 32) → Ex s (runZ sh s l)
  | [], s, _ => .refl s
  | m :: t, _, hl => (Ex.step (hl m List.mem_cons_self) sh).trans (Ex.run sh t _ fun x hx => hl x (List.mem_cons_of_mem _ hx))
theorem Ex.turn {s : GNode} {n : Nat} (hn : n < 32) (g : GGraph) (sh : Int) : Ex s (turnZ g sh s n) := by
  unfold turnZ
  cases ((eat s.entries n).state == 2)
  · exact .refl s
  · exact Ex.run sh _ s (ordL_lt hn)
theorem Ex.turns (g : GGraph) (sh : Int) : ∀ (l : List Nat) (s : GNode), (∀ m ∈ l, m < 32) → Ex s (l.foldl (turnZ g sh) s)
  | [], s, _ => .refl s
  | m :: t, _, hl => (Ex.turn (hl m List.mem_cons_self) g sh).trans (Ex.turns g sh t _ fun x hx => hl x (List.mem_cons_of_mem _ hx))
theorem Ex.exec (s : GNode) (sh : Int) : Ex s (execZ s sh) := Ex.turns _ sh _ s fun m hm => List.mem_range.1 hm
structure Kp (x y : GEntry) : Prop where
  state : x.state ≤ y.state
  first : x.state ≠ 0 → x.first = y.first
  body : 2 ≤ x.state → x.deps = y.deps ∧ x.ops = y.ops
  done : x.state = 3 → x = y
theorem Kp.refl (x : GEntry) : Kp x x := ⟨Int.le_refl _, fun _ => rfl, fun _ => ⟨rfl, rfl⟩, fun _ => rfl⟩
theorem Kp.trans {x y z : GEntry} (h0 : 0 ≤ x.state) (h : Kp x y) (k : Kp y z) : Kp x z := by
  have h1 := h.state
  refine ⟨Int.le_trans h.state k.state, fun hx => (h.first hx).trans (k.first (by omega)), fun hx => ?_, fun hx => ?_⟩
  · obtain ⟨a, b⟩ := h.body hx
    obtain ⟨c, d⟩ := k.body (by omega)
    exact ⟨a.trans c, b.trans d⟩
  · have e := h.done hx
    rw [e]
    exact k.done (by rw [← e]; exact hx)
structure KeepN (s t : GNode) : Prop where
  ent : ∀ k, k < 32 → Kp (eat s.entries k) (eat t.entries k)
  order : ∃ L, t.order = s.order ++ L
theorem KeepN.refl (s : GNode) : KeepN s s := ⟨fun _ _ => .refl _, [], by simp⟩
theorem takeN_good {s : GNode} {who : Int} {f : GFrame} (h : (takeN s who f).2.2 = 0) : GoodN (takeN s who f).1 := by
  obtain ⟨hs, hw, hn, hz, hk⟩ := takeN_ok h
  rw [takeN_of hs hw hn hz]
  rcases hk with ⟨h1, ht⟩ | h3
  · rw [takeK_ask h1 ht]; exact hs.asked hz h1 _
  · rw [takeK_commit h3]; exact hs.commit hz h3 _
end Go.Proofs.Ytopgdemmdcipcaa
namespace Go.Proofs.Ytopgdemmdcipcaa
open Go.RowKit
open Rep (rep)
set_option linter.unusedVariables false
def nodeReplay_l1 (fu : Nat) (x1 : Int) (x2 : List ByteArray) : Nat → GNode → GNode → Int → Option (GNode × Int)
 | 0, _, _, _ => none
 | n + 1, d20, d22, y23 =>
 (bif decide (y23 < (x2.length : Int)) then
 (idx x2 y23).bind fun x30 =>
 (decodeD fu x30).bind fun r33 =>
 (some r33.1).bind fun d38 =>
 (bif r33.2 != 0 then
 (some ({ entries := Zr.zd, order := Zr.zd, values := Zr.zd } : GNode)).bind fun d41 =>
 (some d41).bind fun d44 =>
 some (d44, r33.2)
 else
 (nodeTakeD fu d20 x1 d38).bind fun r49 =>
 (some r49.1).bind fun d52 =>
 (bif r49.2.2 != 0 then
 (some ({ entries := Zr.zd, order := Zr.zd, values := Zr.zd } : GNode)).bind fun d55 =>
 (some d55).bind fun d58 =>
 some (d58, r49.2.2)
 else
 (nodeReplay_l1 fu x1 x2 n) d52 d22 (IntKind.wrap .i64 (y23 + 1))))
 else
 (some d20).bind fun d62 =>
 some (d62, 0))
def nodeReplayD (fu : Nat) (x1 : Int) (x2 : List ByteArray) : Option (GNode × Int) :=
 (nodeIsD fu x1).bind fun r9 =>
 (bif !r9 then
 (some (Zr.zd : GNode)).bind fun d14 =>
 some (d14, 2)
 else
 nodeReplay_l1 fu x1 x2 fu (Zr.zd : GNode) (Zr.zd : GNode) 0)
set_option maxRecDepth 100000 in
set_option maxHeartbeats 4000000 in
theorem nodeReplay_ok {M : Mm} {w : World} {vx2 : Value} {x1 : Int} {x2 : List ByteArray} {fu : Nat} {r : GNode × Int} (hA : Agree M w) (hvx2 : repL M vx2 x2) (hz : nodeReplayD fu x1 x2 = some r) :
    Calls Try.prog 33 #[.int .i64 x1, vx2] w (Gives M w (fun M' u => ∃ c0, u = .tuple #[.agg c0.toArray, .int .i64 r.2] ∧ rep M' c0 r.1)) := by
 refine calls_W Try.func33 rfl 44 rfl rfl (by kernel_rfl) fun T hT => ?_
 have hT_0 : T 0 = .int .i64 x1 := hT 0
 have hT_1 : T 1 = vx2 := hT 1
 clear hT
 have hE := Mm.ext.refl w.heap.size noX M
 have hS : St w noX M [] w := St.start hA
 rw [nodeReplayD] at hz
 refine W_seq <|W_reg ?_
 refine WL_c (O_alloc tz48 hS ?_)
 intro b4 w3 hb4 hS
 replace hS : St w noX M [.box b4 (Zr.zc GNode) 48] w3 := hS
 have zb4 : rep M (Zr.zc GNode) (Zr.zd : GNode) := Zr.zr
 refine WL_y (Y_assign (.int .i64 0) rfl) ?_
 refine WL_nil (nm_then ?_)
 refine W_seq <|W_reg ?_
 refine WL_c (O_alloc tz48 hS ?_)
 intro b6 w5 hb6 hS
 replace hS : St w noX M [.box b6 (Zr.zc GNode) 48, .box b4 (Zr.zc GNode) 48] w5 := hS
 have zb6 : rep M (Zr.zc GNode) (Zr.zd : GNode) := Zr.zr
 refine WL_nil (nm_then ?_)
 refine W_seq <|W_seq <|W_reg <|WL_y (Y_move (.int .i64 x1) hT_0) ?_
 obtain ⟨r9, hr8, hz⟩ := bind_ok hz
 refine WL_c (O_val (vs := [.int .i64 x1]) (v := .bool r9) cb51 (args1 rfl) hS (nodeIs_ok hS.agree hr8) ?_)
 intro w7 hS
 refine WL_y (Y_not rfl) ?_
 refine WL_nil (nm_then ?_)
 refine W_cond rfl (fun hc10 => ?_) (fun hc10 => ?_)
 replace hz := bif_ok_t hz hc10
 refine W_seq <|W_reg ?_
 have ha11 := (rep_root (k := 201) rfl zb6)
 refine WL_y (Y_ldn ta48 rfl (hS.bvB 0 rfl) (Rep.len ha11)) ?_
 have hw13 : ((sl (Zr.zc GNode) (0) 201) : List Value).length = 201 := Rep.len ha11
 have hl13 : ((Zr.zc GNode)).length = 201 := Rep.len zb4
 obtain ⟨d14, hd13, hz⟩ := bind_ok hz
 have hb13 : rep M (pt (Zr.zc GNode) (0) (sl (Zr.zc GNode) (0) 201)) d14 := rep_eq (rep_whole (k := 201) (by rw [pt_length (by omega)]; exact hl13) (rep_leaf rfl ha11 (by omega))) hd13
 generalize hg13 : (pt (Zr.zc GNode) (0) (sl (Zr.zc GNode) (0) 201)) = cs13 at hb13
 refine WL_c (O_st (j := 1) (v := .agg (sl (Zr.zc GNode) (0) 201).toArray) (ws := (sl (Zr.zc GNode) (0) 201)) hS rfl (by kernel_rfl) rfl rfl rfl hw13 (Rep.one ha11) (by omega) ?_)
 rw [hg13]
 clear hg13
 intro w12 hS
 replace hS : St w noX M [.box b6 (Zr.zc GNode) 48, .box b4 cs13 48] w12 := hS
 refine WL_y (Y_assign (.int .i64 2) rfl) ?_
 refine WL_nil (nm_then ?_)
 cases hz
 exact W_ret (rt_then (R_ct (j := 1) rfl rfl rfl (by rw [Rep.len hb13]; exact ta48) hS rfl (Gives.mk (St.dropB (St.dropB hS hb6) hb4) hE ⟨_, rfl, hb13⟩)))
 replace hz := bif_ok_f hz hc10
 refine W_skip (nm_then ?_)
 refine W_seq <|W_seq <|W_reg <|WL_y (Y_move (vx2) hT_1) ?_
 obtain ⟨a15, c15, hv15, _⟩ := repL_shape hvx2
 refine WL_y (Y_lenL Try.underlying69 (tr2 hv15 rfl)) <|WL_y (Y_move (.int .i64 0) rfl) ?_
 refine WL_nil (nm_then ?_)
 refine W_block ?_
 refine W_loop (fun k25 T' w' => ∃ M17 cs19 d20 cs21 d22 y23, Mm.ext w.heap.size noX M M17 ∧ St w noX M17 [.box b6 cs19 48, .box b4 cs21 48] w' ∧ rep M17 cs19 d20 ∧ rep M17 cs21 d22 ∧ T' 0 = .int .i64 x1 ∧ T' 4 = .pointer (some ⟨b4, 0, none⟩) ∧ T' 6 = .pointer (some ⟨b6, 0, none⟩) ∧ T' 15 = vx2 ∧ T' 16 = .int .i64 (x2.length : Int) ∧ T' 17 = .int .i64 y23 ∧ nodeReplay_l1 fu x1 x2 k25 d20 d22 y23 = some r) fu ?_ ?_ ?_
 exact ⟨M, (Zr.zc GNode), (Zr.zd : GNode), (Zr.zc GNode), (Zr.zd : GNode), (0 : Int), (Mm.ext.refl _ _ _), hS, zb6, zb4, hT_0, rfl, rfl, rfl, rfl, rfl, hz⟩
 rintro T' w' ⟨_, _, _, _, _, _, _, _, _, _, _, _, _, _, _, _, hz⟩
 rw [nodeReplay_l1] at hz
 cases hz
 intro k25
 rintro T18 w16 ⟨M17, cs19, d20, cs21, d22, y23, hx27, hS, hb19, hb21, hT18_0, hT18_4, hT18_6, hT18_15, hT18_16, hT18_17, hz⟩
 replace hvx2 := repL.mono hx27.1 hvx2
 replace hE := Mm.ext.trans hE hx27
 have hF26 := hx27
 rw [nodeReplay_l1] at hz
 obtain ⟨rec24, hrec24⟩ : ∃ f, f = nodeReplay_l1 fu x1 x2 k25 := ⟨_, rfl⟩
 rw [← hrec24] at hz
 refine W_seq <|W_reg <|WL_y (Y_lss hT18_17 hT18_16) ?_
 refine WL_nil (nm_then ?_)
 refine W_seq ?_
 refine W_cond rfl (fun hc28 => ?_) (fun hc28 => ?_)
 replace hz := bif_ok_t hz hc28
 refine W_skip (nm_then ?_)
 refine W_seq <|W_block <|W_seq <|W_reg ?_
 obtain ⟨x30, hx29, hz⟩ := bind_ok hz
 obtain ⟨b29, o29, c29, p29, hv29, hi29, hj29, hM29, hr29⟩ := repL_at hvx2 hx29
 replace hr29 : rep _ (sl p29 (o29 + Int.toNat y23 * 1) 1) x30 := hr29
 refine WL_y (Y_ixL il69 hT18_15 hv29 hT18_17 hi29 hj29) <|WL_y (Y_ld1 (.string x30) ts9 rfl (hS.bvM hM29) hr29.1) <|WL_y (Y_assign (.string x30) rfl) ?_
 refine WL_nil (nm_then ?_)
 refine W_seq <|W_reg <|WL_y (Y_move (.string x30) rfl) ?_
 obtain ⟨r33, hr32, hz⟩ := bind_ok hz
 refine WL_c (O_mem (vs := [.string x30]) (rv := (fun M' u => ∃ c0, u = .tuple #[.agg c0.toArray, .int .i64 r33.2] ∧ rep M' c0 r33.1)) cb68 (args1 rfl) hS (decode_ok hS.agree hr32) ?_)
 intro u32 M32 w31 hx32 hu32 hS
 obtain ⟨c32_0, hq32, f32_0⟩ := hu32
 subst hq32
 replace hvx2 := repL.mono hx32.1 hvx2
 replace hb19 := Rep.mono hx32.1 hb19
 replace hb21 := Rep.mono hx32.1 hb21
 replace hE := Mm.ext.trans hE hx32
 replace hF26 := Mm.ext.trans hF26 hx32
 refine WL_y (Y_move (.tuple #[.agg c32_0.toArray, .int .i64 r33.2]) rfl) <|WL_y (Y_extract (v := .agg c32_0.toArray) rfl rfl) <|WL_y (Y_extract (v := .int .i64 r33.2) rfl rfl) ?_
 refine WL_c (O_alloc tz38 hS ?_)
 intro b35 w34 hb35 hS
 replace hS : St w noX M32 [.box b35 (Zr.zc GFrame) 38, .box b6 cs19 48, .box b4 cs21 48] w34 := hS
 have zb35 : rep M32 (Zr.zc GFrame) (Zr.zd : GFrame) := Zr.zr
 have hw37 : (c32_0 : List Value).length = 7 := Rep.len f32_0
 have hl37 : ((Zr.zc GFrame)).length = 7 := Rep.len zb35
 obtain ⟨d38, hd37, hz⟩ := bind_ok hz
 have hb37 : rep M32 (pt (Zr.zc GFrame) (0) c32_0) d38 := rep_eq (rep_whole (k := 7) (by rw [pt_length (by omega)]; exact hl37) (rep_leaf rfl f32_0 (by omega))) hd37
 generalize hg37 : (pt (Zr.zc GFrame) (0) c32_0) = cs37 at hb37
 refine WL_c (O_st (j := 0) (v := .agg c32_0.toArray) (ws := c32_0) hS rfl (by kernel_rfl) rfl rfl rfl hw37 (Rep.one f32_0) (by omega) ?_)
 rw [hg37]
 clear hg37
 intro w36 hS
 replace hS : St w noX M32 [.box b35 cs37 38, .box b6 cs19 48, .box b4 cs21 48] w36 := hS
 refine WL_y (Y_assign (.int .i64 r33.2) rfl) ?_
 refine WL_nil (nm_then ?_)
 refine W_seq <|W_seq <|W_reg <|WL_y (Y_move (.int .i64 r33.2) rfl) <|WL_y (Y_neq rfl rfl) ?_
 refine WL_nil (nm_then ?_)
 refine W_cond rfl (fun hc39 => ?_) (fun hc39 => ?_)
 replace hz := bif_ok_t hz hc39
 refine W_seq <|W_reg ?_
 obtain ⟨d41, hd40, hz⟩ := bind_ok hz
 obtain ⟨cs40, hf40, ha40⟩ : ∃ cs, fillZ (([(0, 192), (192, 1), (193, 8)] : List (Nat × Nat))[·]?) (Zr.zc GNode) [] = some cs ∧ rep M32 cs d41 := ⟨_, fz_nil, rep_eq (x := ({ entries := Zr.zd, order := Zr.zd, values := Zr.zd } : GNode)) (Zr.zr : rep M32 (Zr.zc GNode) (Zr.zd : GNode)) hd40⟩
 refine WL_y (Y_build [] tb48 bp0 hf40) <|WL_y (Y_move (.int .i64 r33.2) rfl) ?_
 have hw43 : (cs40 : List Value).length = 201 := Rep.len ha40
 have hl43 : (cs21).length = 201 := Rep.len hb21
 obtain ⟨d44, hd43, hz⟩ := bind_ok hz
 have hb43 : rep M32 (pt cs21 (0) cs40) d44 := rep_eq (rep_whole (k := 201) (by rw [pt_length (by omega)]; exact hl43) (rep_leaf rfl ha40 (by omega))) hd43
 generalize hg43 : (pt cs21 (0) cs40) = cs43 at hb43
 refine WL_c (O_st (j := 2) (v := .agg cs40.toArray) (ws := cs40) hS rfl (by kernel_rfl) hT18_4 rfl rfl hw43 (Rep.one ha40) (by omega) ?_)
 rw [hg43]
 clear hg43
 intro w42 hS
 replace hS : St w noX M32 [.box b35 cs37 38, .box b6 cs19 48, .box b4 cs43 48] w42 := hS
 refine WL_y (Y_assign (.int .i64 r33.2) rfl) ?_
 refine WL_nil (nm_then ?_)
 cases hz
 exact W_ret (rt_then (rt_blk (rt_then (rt_then (rt_blk (rt_then (R_ct (j := 2) rfl hT18_4 rfl (by rw [Rep.len hb43]; exact ta48) hS rfl (Gives.mk (St.dropB (St.dropB (St.dropB hS hb35) hb6) hb4) hE ⟨_, rfl, hb43⟩))))))))
 replace hz := bif_ok_f hz hc39
 refine W_skip (nm_then ?_)
 refine W_seq <|W_reg ?_
 have ha45 := (rep_root (k := 201) rfl hb19)
 refine WL_y (Y_ldn ta48 hT18_6 (hS.bvB 1 rfl) (Rep.len ha45)) <|WL_y (Y_move (.int .i64 x1) hT18_0) ?_
 have ha46 := (rep_root (k := 7) rfl hb37)
 refine WL_y (Y_ldn ta38 rfl (hS.bvB 0 rfl) (Rep.len ha46)) ?_
 obtain ⟨r49, hr48, hz⟩ := bind_ok hz
 refine WL_c (O_mem (vs := [.agg (sl cs19 (0) 201).toArray, .int .i64 x1, .agg (sl cs37 (0) 7).toArray]) (rv := (fun M' u => ∃ c0 v1, u = .tuple #[.agg c0.toArray, v1, .int .i64 r49.2.2] ∧ rep M' c0 r49.1 ∧ repL M' v1 r49.2.1)) cb17 (args3 rfl rfl rfl) hS (nodeTake_ok hS.agree ha45 ha46 hr48) ?_)
 intro u48 M48 w47 hx48 hu48 hS
 obtain ⟨c48_0, v48_1, hq48, f48_0, f48_1⟩ := hu48
 subst hq48
 replace hvx2 := repL.mono hx48.1 hvx2
 replace hb19 := Rep.mono hx48.1 hb19
 replace hb21 := Rep.mono hx48.1 hb21
 replace hb37 := Rep.mono hx48.1 hb37
 replace ha45 := Rep.mono hx48.1 ha45
 replace ha46 := Rep.mono hx48.1 ha46
 replace hE := Mm.ext.trans hE hx48
 replace hF26 := Mm.ext.trans hF26 hx48
 refine WL_y (Y_move (.tuple #[.agg c48_0.toArray, v48_1, .int .i64 r49.2.2]) rfl) <|WL_y (Y_extract (v := .agg c48_0.toArray) rfl rfl) <|WL_y (Y_extract (v := v48_1) rfl rfl) <|WL_y (Y_extract (v := .int .i64 r49.2.2) rfl rfl) ?_
 have hw51 : (c48_0 : List Value).length = 201 := Rep.len f48_0
 have hl51 : (cs19).length = 201 := Rep.len hb19
 obtain ⟨d52, hd51, hz⟩ := bind_ok hz
 have hb51 : rep M48 (pt cs19 (0) c48_0) d52 := rep_eq (rep_whole (k := 201) (by rw [pt_length (by omega)]; exact hl51) (rep_leaf rfl f48_0 (by omega))) hd51
 generalize hg51 : (pt cs19 (0) c48_0) = cs51 at hb51
 refine WL_c (O_st (j := 1) (v := .agg c48_0.toArray) (ws := c48_0) hS rfl (by kernel_rfl) hT18_6 rfl rfl hw51 (Rep.one f48_0) (by omega) ?_)
 rw [hg51]
 clear hg51
 intro w50 hS
 replace hS : St w noX M48 [.box b35 cs37 38, .box b6 cs51 48, .box b4 cs21 48] w50 := hS
 refine WL_y (Y_assign (.int .i64 r49.2.2) rfl) ?_
 refine WL_nil (nm_then ?_)
 refine W_seq <|W_reg <|WL_y (Y_move (.int .i64 r49.2.2) rfl) <|WL_y (Y_neq rfl rfl) ?_
 refine WL_nil (nm_then ?_)
 refine W_cond rfl (fun hc53 => ?_) (fun hc53 => ?_)
 replace hz := bif_ok_t hz hc53
 refine W_seq <|W_reg ?_
 obtain ⟨d55, hd54, hz⟩ := bind_ok hz
 obtain ⟨cs54, hf54, ha54⟩ : ∃ cs, fillZ (([(0, 192), (192, 1), (193, 8)] : List (Nat × Nat))[·]?) (Zr.zc GNode) [] = some cs ∧ rep M48 cs d55 := ⟨_, fz_nil, rep_eq (x := ({ entries := Zr.zd, order := Zr.zd, values := Zr.zd } : GNode)) (Zr.zr : rep M48 (Zr.zc GNode) (Zr.zd : GNode)) hd54⟩
 refine WL_y (Y_build [] tb48 bp0 hf54) <|WL_y (Y_move (.int .i64 r49.2.2) rfl) ?_
 have hw57 : (cs54 : List Value).length = 201 := Rep.len ha54
 have hl57 : (cs21).length = 201 := Rep.len hb21
 obtain ⟨d58, hd57, hz⟩ := bind_ok hz
 have hb57 : rep M48 (pt cs21 (0) cs54) d58 := rep_eq (rep_whole (k := 201) (by rw [pt_length (by omega)]; exact hl57) (rep_leaf rfl ha54 (by omega))) hd57
 generalize hg57 : (pt cs21 (0) cs54) = cs57 at hb57
 refine WL_c (O_st (j := 2) (v := .agg cs54.toArray) (ws := cs54) hS rfl (by kernel_rfl) hT18_4 rfl rfl hw57 (Rep.one ha54) (by omega) ?_)
 rw [hg57]
 clear hg57
 intro w56 hS
 replace hS : St w noX M48 [.box b35 cs37 38, .box b6 cs51 48, .box b4 cs57 48] w56 := hS
 refine WL_y (Y_assign (.int .i64 r49.2.2) rfl) ?_
 refine WL_nil (nm_then ?_)
 cases hz
 exact W_ret (rt_blk (rt_then (rt_then (rt_blk (rt_then (R_ct (j := 2) rfl hT18_4 rfl (by rw [Rep.len hb57]; exact ta48) hS rfl (Gives.mk (St.dropB (St.dropB (St.dropB hS hb35) hb6) hb4) hE ⟨_, rfl, hb57⟩)))))))
 replace hz := bif_ok_f hz hc53
 refine W_skip (nm_blk ?_)
 refine (nm_then ?_)
 refine W_reg <|WL_y (Y_add hT18_17 rfl) <|WL_y (Y_move (.int .i64 (IntKind.wrap .i64 (y23 + 1))) rfl) ?_
 refine WL_nil (nm_then ?_)
 exact ⟨M48, cs51, d52, cs21, d22, (IntKind.wrap .i64 (y23 + 1)), hF26, (St.dropB hS hb35), hb51, hb21, hT18_0, hT18_4, hT18_6, hT18_15, hT18_16, rfl, (by rw [← hrec24]; exact hz)⟩
 replace hz := bif_ok_f hz hc28
 refine W_exit <|ex_then <|ex_then <|ex_hit ?_
 refine (nm_then ?_)
 refine W_seq <|W_reg ?_
 have ha59 := (rep_root (k := 201) rfl hb19)
 refine WL_y (Y_ldn ta48 hT18_6 (hS.bvB 0 rfl) (Rep.len ha59)) ?_
 have hw61 : ((sl cs19 (0) 201) : List Value).length = 201 := Rep.len ha59
 have hl61 : (cs21).length = 201 := Rep.len hb21
 obtain ⟨d62, hd61, hz⟩ := bind_ok hz
 have hb61 : rep M17 (pt cs21 (0) (sl cs19 (0) 201)) d62 := rep_eq (rep_whole (k := 201) (by rw [pt_length (by omega)]; exact hl61) (rep_leaf rfl ha59 (by omega))) hd61
 generalize hg61 : (pt cs21 (0) (sl cs19 (0) 201)) = cs61 at hb61
 refine WL_c (O_st (j := 1) (v := .agg (sl cs19 (0) 201).toArray) (ws := (sl cs19 (0) 201)) hS rfl (by kernel_rfl) hT18_4 rfl rfl hw61 (Rep.one ha59) (by omega) ?_)
 rw [hg61]
 clear hg61
 intro w60 hS
 replace hS : St w noX M17 [.box b6 cs19 48, .box b4 cs61 48] w60 := hS
 refine WL_y (Y_assign (.int .i64 0) rfl) ?_
 refine WL_nil (nm_then ?_)
 cases hz
 exact W_ret (R_ct (j := 1) rfl hT18_4 rfl (by rw [Rep.len hb61]; exact ta48) hS rfl (Gives.mk (St.dropB (St.dropB hS hb6) hb4) hE ⟨_, rfl, hb61⟩))
end Go.Proofs.Ytopgdemmdcipcaa
namespace Go.Proofs.Ytopgdemmdcipcaa
open Go.RowKit
open Rep (rep)
set_option linter.unusedVariables false
def nodeLogs_j2 (y16 : Int) (rec17 : GNode → (List ByteArray) → Int → Option Bool) (d29 : GNode) (l30 : List ByteArray) : Option Bool :=
 rec17 d29 l30 (IntKind.wrap .i64 (y16 + 1))
def nodeLogs_j3 (l14 : List ByteArray) (y16 : Int) (rec17 : GNode → (List ByteArray) → Int → Option Bool) (d54 : GNode) (r58 : ByteArray × Int) : Option Bool :=
 (chkS r58.1).bind fun _ =>
 (app l14 ([r58.1] : List ByteArray)).bind fun l73 =>
 (some d54).bind fun d77 =>
 nodeLogs_j2 y16 rec17 d77 l73
def nodeLogs_j4 (d13 : GNode) (l14 : List ByteArray) (y16 : Int) (rec17 : GNode → (List ByteArray) → Int → Option Bool) (d54 : GNode) (r58 : ByteArray × Int) (c83 : Bool) : Option Bool :=
 (bif c83 then
 nodeLogs_j2 y16 rec17 d13 l14
 else
 nodeLogs_j3 l14 y16 rec17 d54 r58)
def nodeLogs_j1 (fu : Nat) (x2 : List GFrame) (r5 : Int) (d13 : GNode) (l14 : List ByteArray) (y16 : Int) (rec17 : GNode → (List ByteArray) → Int → Option Bool) : Option Bool :=
 (idx x2 y16).bind fun x35 =>
 (some x35).bind fun d41 =>
 (some ({ d41 with node := r5 } : GFrame)).bind fun d44 =>
 (nodeTakeD fu d13 r5 d44).bind fun r49 =>
 (some r49.1).bind fun d54 =>
 (encodeD fu d44).bind fun r58 =>
 (bif r49.2.2 != 0 then
 nodeLogs_j4 d13 l14 y16 rec17 d54 r58 true
 else
 nodeLogs_j4 d13 l14 y16 rec17 d54 r58 (r58.2 != 0))
def nodeLogs_j6 (c106 : Bool) : Option Bool :=
 some c106
def nodeLogs_j5 (fu : Nat) (x2 : List GFrame) (r5 : Int) (d13 : GNode) (l14 : List ByteArray) (y16 : Int) (rec17 : GNode → (List ByteArray) → Int → Option Bool) (c92 : Bool) : Option Bool :=
 (bif c92 then
 nodeLogs_j1 fu x2 r5 d13 l14 y16 rec17
 else
 (nodeReplayD fu r5 l14).bind fun r97 =>
 (some r97.1).bind fun d102 =>
 (bif r97.2 == 0 then
 (keepSameNodeD fu d13 d102).bind fun r114 =>
 (bif r114 then
 (keepTakesD fu).bind fun r118 =>
 nodeLogs_j6 r118
 else
 nodeLogs_j6 false)
 else
 nodeLogs_j6 false))
def nodeLogs_l1 (fu : Nat) (x2 : List GFrame) (r5 : Int) : Nat → GNode → (List ByteArray) → Int → Option Bool
 | 0, _, _, _ => none
 | n + 1, d13, l14, y16 =>
 (bif decide (y16 < (x2.length : Int)) then
 nodeLogs_j5 fu x2 r5 d13 l14 y16 (nodeLogs_l1 fu x2 r5 n) (decide (y16 < 40))
 else
 nodeLogs_j5 fu x2 r5 d13 l14 y16 (nodeLogs_l1 fu x2 r5 n) false)
def nodeLogsD (fu : Nat) (x1 : Int) (x2 : List GFrame) : Option Bool :=
 (keepPickD fu x1 6).bind fun r5 =>
 nodeLogs_l1 fu x2 r5 fu (Zr.zd : GNode) ([] : List ByteArray) 0
set_option maxRecDepth 100000 in
set_option maxHeartbeats 4000000 in
theorem nodeLogs_ok {M : Mm} {w : World} {vx2 : Value} {x1 : Int} {x2 : List GFrame} {fu : Nat} {r : Bool} (hA : Agree M w) (hvx2 : repL M vx2 x2) (hz : nodeLogsD fu x1 x2 = some r) :
    Calls Try.prog 9 #[.int .i64 x1, vx2] w (GivesV w (.bool r)) := by
 refine calls_W Try.func9 rfl 74 rfl rfl (by kernel_rfl) fun T hT => ?_
 have hT_0 : T 0 = .int .i64 x1 := hT 0
 have hT_1 : T 1 = vx2 := hT 1
 clear hT
 have hE := Mm.ext.refl w.heap.size noX M
 have hS : St w noX M [] w := St.start hA
 rw [nodeLogsD] at hz
 refine W_seq <|W_reg <|WL_y (Y_assign (.bool false) rfl) ?_
 refine WL_nil (nm_then ?_)
 refine W_seq <|W_reg <|WL_y (Y_move (.int .i64 x1) hT_0) ?_
 obtain ⟨r5, hr4, hz⟩ := bind_ok hz
 refine WL_c (O_val (vs := [.int .i64 x1, .int .i64 6]) (v := .int .i64 r5) cb30 (args2 rfl rfl) hS (keepPick_ok hS.agree hr4) ?_)
 intro w3 hS
 refine WL_y (Y_assign (.int .i64 r5) rfl) ?_
 refine WL_nil (nm_then ?_)
 refine W_seq <|W_reg ?_
 refine WL_c (O_alloc tz48 hS ?_)
 intro b7 w6 hb7 hS
 replace hS : St w noX M [.box b7 (Zr.zc GNode) 48] w6 := hS
 have zb7 : rep M (Zr.zc GNode) (Zr.zd : GNode) := Zr.zr
 refine WL_nil (nm_then ?_)
 refine W_seq <|W_reg <|WL_y (Y_assign ((.slice none 0 0)) rfl) ?_
 refine WL_nil (nm_then ?_)
 refine W_seq <|W_seq <|W_reg <|WL_y (Y_assign (.int .i64 0) rfl) ?_
 refine WL_nil (nm_then ?_)
 refine W_block ?_
 replace hS := hS.nilRow 9 1
 replace hS : St w noX M [.row (.slice none 0 0) 9 1, .box b7 (Zr.zc GNode) 48] w6 := hS
 refine W_loop (fun k18 T' w' => ∃ M10 cs12 d13 v15 l14 y16, Mm.ext w.heap.size noX M M10 ∧ St w noX M10 [.row v15 9 1, .box b7 cs12 48] w' ∧ rep M10 cs12 d13 ∧ repL M10 v15 l14 ∧ T' 0 = .int .i64 r5 ∧ T' 1 = vx2 ∧ T' 5 = .pointer (some ⟨b7, 0, none⟩) ∧ T' 6 = v15 ∧ T' 7 = .int .i64 y16 ∧ nodeLogs_l1 fu x2 r5 k18 d13 l14 y16 = some r) fu ?_ ?_ ?_
 exact ⟨M, (Zr.zc GNode), (Zr.zd : GNode), (.slice none 0 0), ([] : List ByteArray), (0 : Int), (Mm.ext.refl _ _ _), hS, zb7, (repL_nil _), rfl, hT_1, rfl, rfl, rfl, hz⟩
 rintro T' w' ⟨_, _, _, _, _, _, _, _, _, _, _, _, _, _, _, hz⟩
 rw [nodeLogs_l1] at hz
 cases hz
 intro k18
 rintro T11 w9 ⟨M10, cs12, d13, v15, l14, y16, hx20, hS, hb12, hv15, hT11_0, hT11_1, hT11_5, hT11_6, hT11_7, hz⟩
 replace hvx2 := repL.mono hx20.1 hvx2
 replace hE := Mm.ext.trans hE hx20
 have hF19 := hx20
 rw [nodeLogs_l1] at hz
 obtain ⟨rec17, hrec17⟩ : ∃ f, f = nodeLogs_l1 fu x2 r5 k18 := ⟨_, rfl⟩
 rw [← hrec17] at hz
 refine W_seqJ (fun T' w' => ∃ M22, Mm.ext w.heap.size noX M10 M22 ∧ St w noX M22 [.row v15 9 1, .box b7 cs12 48] w' ∧ T' 0 = .int .i64 r5 ∧ T' 1 = vx2 ∧ T' 5 = .pointer (some ⟨b7, 0, none⟩) ∧ T' 6 = v15 ∧ T' 7 = .int .i64 y16 ∧ nodeLogs_j1 fu x2 r5 d13 l14 y16 rec17 = some r) ?_ ?_
 have hF88 := Mm.ext.refl w.heap.size noX M10
 refine W_seqJ (fun T' w' => ∃ M90 c92, Mm.ext w.heap.size noX M10 M90 ∧ St w noX M90 [.row v15 9 1, .box b7 cs12 48] w' ∧ T' 0 = .int .i64 r5 ∧ T' 1 = vx2 ∧ T' 5 = .pointer (some ⟨b7, 0, none⟩) ∧ T' 6 = v15 ∧ T' 7 = .int .i64 y16 ∧ T' 25 = .bool c92 ∧ nodeLogs_j5 fu x2 r5 d13 l14 y16 rec17 c92 = some r) ?_ ?_
 have hF119 := Mm.ext.refl w.heap.size noX M10
 refine W_reg <|WL_y (Y_move (.int .i64 y16) hT11_7) <|WL_y (Y_move (vx2) hT11_1) ?_
 obtain ⟨a120, c120, hv120, _⟩ := repL_shape hvx2
 refine WL_y (Y_lenL Try.underlying25 (tr2 hv120 rfl)) <|WL_y (Y_lss rfl rfl) <|WL_y (Y_move (.bool (decide (y16 < (x2.length : Int)))) rfl) ?_
 rcases ic hz with ⟨hc121, hz⟩ | ⟨hc121, hz⟩ <;> rw [hc121]
 refine WL_gy rfl rfl (Y_move (.int .i64 y16) hT11_7) <|WL_gy rfl rfl (Y_lss rfl rfl) <|WL_y (Y_pick_t (.bool (decide (y16 < 40))) rfl rfl) ?_
 refine WL_nil (nm_then ?_)
 exact ⟨M10, (decide (y16 < 40)), hF119, hS, hT11_0, hT11_1, hT11_5, hT11_6, hT11_7, rfl, hz⟩
 refine WL_d 3 rfl ?_
 refine WL_nil (nm_then ?_)
 exact ⟨M10, false, hF119, hS, hT11_0, hT11_1, hT11_5, hT11_6, hT11_7, rfl, hz⟩
 rintro T91 w89 ⟨M90, c92, hx93, hS, hT91_0, hT91_1, hT91_5, hT91_6, hT91_7, hT91_25, hz⟩
 replace hvx2 := repL.mono hx93.1 hvx2
 replace hb12 := Rep.mono hx93.1 hb12
 replace hv15 := repL.mono hx93.1 hv15
 replace hE := Mm.ext.trans hE hx93
 replace hF19 := Mm.ext.trans hF19 hx93
 replace hF88 := Mm.ext.trans hF88 hx93
 rw [nodeLogs_j5] at hz
 refine W_cond hT91_25 (fun hc94 => ?_) (fun hc94 => ?_)
 replace hz := bif_ok_t hz hc94
 refine W_skip (nm_then ?_)
 exact ⟨M90, hF88, hS, hT91_0, hT91_1, hT91_5, hT91_6, hT91_7, hz⟩
 replace hz := bif_ok_f hz hc94
 refine W_exit <|ex_then <|ex_then <|ex_hit ?_
 refine (nm_then ?_)
 refine W_seq <|W_reg <|WL_y (Y_move (.int .i64 r5) hT91_0) <|WL_y (Y_move (v15) hT91_6) ?_
 obtain ⟨r97, hr96, hz⟩ := bind_ok hz
 refine WL_c (O_mem (vs := [.int .i64 r5, v15]) (rv := (fun M' u => ∃ c0, u = .tuple #[.agg c0.toArray, .int .i64 r97.2] ∧ rep M' c0 r97.1)) cb33 (args2 rfl rfl) hS (nodeReplay_ok hS.agree hv15 hr96) ?_)
 intro u96 M96 w95 hx96 hu96 hS
 obtain ⟨c96_0, hq96, f96_0⟩ := hu96
 subst hq96
 replace hb12 := Rep.mono hx96.1 hb12
 replace hv15 := repL.mono hx96.1 hv15
 replace hE := Mm.ext.trans hE hx96
 replace hF19 := Mm.ext.trans hF19 hx96
 replace hF88 := Mm.ext.trans hF88 hx96
 refine WL_y (Y_move (.tuple #[.agg c96_0.toArray, .int .i64 r97.2]) rfl) <|WL_y (Y_extract (v := .agg c96_0.toArray) rfl rfl) <|WL_y (Y_extract (v := .int .i64 r97.2) rfl rfl) ?_
 refine WL_c (O_alloc tz48 hS ?_)
 intro b99 w98 hb99 hS
 replace hS : St w noX M96 [.box b99 (Zr.zc GNode) 48, .row v15 9 1, .box b7 cs12 48] w98 := hS
 have zb99 : rep M96 (Zr.zc GNode) (Zr.zd : GNode) := Zr.zr
 have hw101 : (c96_0 : List Value).length = 201 := Rep.len f96_0
 have hl101 : ((Zr.zc GNode)).length = 201 := Rep.len zb99
 obtain ⟨d102, hd101, hz⟩ := bind_ok hz
 have hb101 : rep M96 (pt (Zr.zc GNode) (0) c96_0) d102 := rep_eq (rep_whole (k := 201) (by rw [pt_length (by omega)]; exact hl101) (rep_leaf rfl f96_0 (by omega))) hd101
 generalize hg101 : (pt (Zr.zc GNode) (0) c96_0) = cs101 at hb101
 refine WL_c (O_st (j := 0) (v := .agg c96_0.toArray) (ws := c96_0) hS rfl (by kernel_rfl) rfl rfl rfl hw101 (Rep.one f96_0) (by omega) ?_)
 rw [hg101]
 clear hg101
 intro w100 hS
 replace hS : St w noX M96 [.box b99 cs101 48, .row v15 9 1, .box b7 cs12 48] w100 := hS
 refine WL_y (Y_assign (.int .i64 r97.2) rfl) ?_
 refine WL_nil (nm_then ?_)
 refine W_seqJ (fun T' w' => ∃ M104 c106, Mm.ext w.heap.size noX M96 M104 ∧ St w noX M104 [.box b99 cs101 48, .row v15 9 1, .box b7 cs12 48] w' ∧ T' 4 = .bool c106 ∧ nodeLogs_j6 c106 = some r) ?_ ?_
 have hF108 := Mm.ext.refl w.heap.size noX M96
 refine W_reg <|WL_y (Y_move (.int .i64 r97.2) rfl) <|WL_y (Y_eql rfl rfl) <|WL_y (Y_move (.bool (r97.2 == 0)) rfl) ?_
 rcases ic hz with ⟨hc109, hz⟩ | ⟨hc109, hz⟩ <;> rw [hc109]
 have ha110 := (rep_root (k := 201) rfl hb12)
 refine WL_gy rfl rfl (Y_ldn ta48 hT91_5 (hS.bvB 2 rfl) (Rep.len ha110)) ?_
 have ha111 := (rep_root (k := 201) rfl hb101)
 refine WL_gy rfl rfl (Y_ldn ta48 rfl (hS.bvB 0 rfl) (Rep.len ha111)) ?_
 obtain ⟨r114, hr113, hz⟩ := bind_ok hz
 refine WL_g rfl rfl (O_val (vs := [.agg (sl cs12 (0) 201).toArray, .agg (sl cs101 (0) 201).toArray]) (v := .bool r114) cb26 (args2 rfl rfl) hS (keepSameNode_ok hS.agree ha110 ha111 hr113) ?_)
 intro w112 hS
 refine WL_d 2 rfl ?_
 rcases ic hz with ⟨hc115, hz⟩ | ⟨hc115, hz⟩ <;> rw [hc115]
 obtain ⟨r118, hr117, hz⟩ := bind_ok hz
 refine WL_g rfl rfl (O_val (vs := []) (v := .bool r118) cb25 args0 hS (keepTakes_ok hS.agree hr117) ?_)
 intro w116 hS
 refine WL_d 2 rfl ?_
 refine WL_nil (nm_then ?_)
 exact ⟨M96, r118, hF108, hS, rfl, hz⟩
 refine WL_d 3 rfl ?_
 refine WL_nil (nm_then ?_)
 exact ⟨M96, false, hF108, hS, rfl, hz⟩
 refine WL_d 8 rfl ?_
 refine WL_nil (nm_then ?_)
 exact ⟨M96, false, hF108, hS, rfl, hz⟩
 rintro T105 w103 ⟨M104, c106, hx107, hS, hT105_4, hz⟩
 replace hb12 := Rep.mono hx107.1 hb12
 replace hb101 := Rep.mono hx107.1 hb101
 replace hE := Mm.ext.trans hE hx107
 replace hF19 := Mm.ext.trans hF19 hx107
 replace hF88 := Mm.ext.trans hF88 hx107
 rw [nodeLogs_j6] at hz
 cases hz
 exact W_ret (R_t1 rfl hT105_4 ⟨rfl, (St.dropB (St.drop (St.dropB hS hb99)) hb7).kept⟩)
 rintro T23 w21 ⟨M22, hx24, hS, hT23_0, hT23_1, hT23_5, hT23_6, hT23_7, hz⟩
 replace hvx2 := repL.mono hx24.1 hvx2
 replace hb12 := Rep.mono hx24.1 hb12
 replace hv15 := repL.mono hx24.1 hv15
 replace hE := Mm.ext.trans hE hx24
 replace hF19 := Mm.ext.trans hF19 hx24
 rw [nodeLogs_j1] at hz
 refine W_seqJ (fun T' w' => ∃ M26 cs28 d29 v31 l30, Mm.ext w.heap.size noX M22 M26 ∧ St w noX M26 [.row v31 9 1, .box b7 cs28 48] w' ∧ rep M26 cs28 d29 ∧ repL M26 v31 l30 ∧ T' 0 = .int .i64 r5 ∧ T' 1 = vx2 ∧ T' 5 = .pointer (some ⟨b7, 0, none⟩) ∧ T' 6 = v31 ∧ T' 7 = .int .i64 y16 ∧ nodeLogs_j2 y16 rec17 d29 l30 = some r) ?_ ?_
 have hF33 := Mm.ext.refl w.heap.size noX M22
 refine W_block <|W_seq <|W_reg <|WL_y (Y_move (vx2) hT23_1) <|WL_y (Y_move (.int .i64 y16) hT23_7) ?_
 obtain ⟨x35, hx34, hz⟩ := bind_ok hz
 obtain ⟨b34, o34, c34, p34, hv34, hi34, hj34, hM34, hr34⟩ := repL_at hvx2 hx34
 replace hr34 : rep _ (sl p34 (o34 + Int.toNat y16 * 7) 7) x35 := hr34
 refine WL_y (Y_ixL il25 rfl hv34 rfl hi34 hj34) ?_
 have ha36 := hr34
 refine WL_y (Y_ldn ta38 rfl (hS.bvM hM34) (Rep.len ha36)) ?_
 refine WL_c (O_alloc tz38 hS ?_)
 intro b38 w37 hb38 hS
 replace hS : St w noX M22 [.box b38 (Zr.zc GFrame) 38, .row v15 9 1, .box b7 cs12 48] w37 := hS
 have zb38 : rep M22 (Zr.zc GFrame) (Zr.zd : GFrame) := Zr.zr
 have hw40 : ((sl p34 (o34 + Int.toNat y16 * 7) 7) : List Value).length = 7 := Rep.len ha36
 have hl40 : ((Zr.zc GFrame)).length = 7 := Rep.len zb38
 obtain ⟨d41, hd40, hz⟩ := bind_ok hz
 have hb40 : rep M22 (pt (Zr.zc GFrame) (0) (sl p34 (o34 + Int.toNat y16 * 7) 7)) d41 := rep_eq (rep_whole (k := 7) (by rw [pt_length (by omega)]; exact hl40) (rep_leaf rfl ha36 (by omega))) hd40
 generalize hg40 : (pt (Zr.zc GFrame) (0) (sl p34 (o34 + Int.toNat y16 * 7) 7)) = cs40 at hb40
 refine WL_c (O_st (j := 0) (v := .agg (sl p34 (o34 + Int.toNat y16 * 7) 7).toArray) (ws := (sl p34 (o34 + Int.toNat y16 * 7) 7)) hS rfl (by kernel_rfl) rfl rfl rfl hw40 (Rep.one ha36) (by omega) ?_)
 rw [hg40]
 clear hg40
 intro w39 hS
 replace hS : St w noX M22 [.box b38 cs40 38, .row v15 9 1, .box b7 cs12 48] w39 := hS
 refine WL_nil (nm_then ?_)
 refine W_seq <|W_reg <|WL_y (Y_move (.int .i64 r5) hT23_0) <|WL_y (Y_fa fa38_1 rfl) ?_
 have hw43 : ([.int .i64 r5] : List Value).length = 1 := Rep.len (show rep M22 [Value.int .i64 r5] (r5 : Int) from rfl)
 have hl43 : (cs40).length = 7 := Rep.len hb40
 obtain ⟨d44, hd43, hz⟩ := bind_ok hz
 have hb43 : rep M22 (pt cs40 (0 + 1) [.int .i64 r5]) d44 := rep_eq (rep_whole (k := 7) (by rw [pt_length (by omega)]; exact hl43) (GFrame.s1 (rep_root (k := 7) rfl hb40) (rep_leaf rfl (show rep M22 [Value.int .i64 r5] (r5 : Int) from rfl) (by omega)) (by omega) (by omega) (by omega))) hd43
 generalize hg43 : (pt cs40 (0 + 1) [.int .i64 r5]) = cs43 at hb43
 refine WL_c (O_st (j := 0) (v := .int .i64 r5) (ws := [.int .i64 r5]) hS rfl (by kernel_rfl) rfl rfl rfl hw43 (Rep.one (show rep M22 [Value.int .i64 r5] (r5 : Int) from rfl)) (by omega) ?_)
 rw [hg43]
 clear hg43
 intro w42 hS
 replace hS : St w noX M22 [.box b38 cs43 38, .row v15 9 1, .box b7 cs12 48] w42 := hS
 refine WL_nil (nm_then ?_)
 refine W_seq <|W_reg ?_
 have ha45 := (rep_root (k := 201) rfl hb12)
 refine WL_y (Y_ldn ta48 hT23_5 (hS.bvB 2 rfl) (Rep.len ha45)) <|WL_y (Y_move (.int .i64 r5) hT23_0) ?_
 have ha46 := (rep_root (k := 7) rfl hb43)
 refine WL_y (Y_ldn ta38 rfl (hS.bvB 0 rfl) (Rep.len ha46)) ?_
 obtain ⟨r49, hr48, hz⟩ := bind_ok hz
 refine WL_c (O_mem (vs := [.agg (sl cs12 (0) 201).toArray, .int .i64 r5, .agg (sl cs43 (0) 7).toArray]) (rv := (fun M' u => ∃ c0 v1, u = .tuple #[.agg c0.toArray, v1, .int .i64 r49.2.2] ∧ rep M' c0 r49.1 ∧ repL M' v1 r49.2.1)) cb17 (args3 rfl rfl rfl) hS (nodeTake_ok hS.agree ha45 ha46 hr48) ?_)
 intro u48 M48 w47 hx48 hu48 hS
 obtain ⟨c48_0, v48_1, hq48, f48_0, f48_1⟩ := hu48
 subst hq48
 replace hvx2 := repL.mono hx48.1 hvx2
 replace hb12 := Rep.mono hx48.1 hb12
 replace hv15 := repL.mono hx48.1 hv15
 replace hb43 := Rep.mono hx48.1 hb43
 replace ha45 := Rep.mono hx48.1 ha45
 replace ha46 := Rep.mono hx48.1 ha46
 replace hE := Mm.ext.trans hE hx48
 replace hF19 := Mm.ext.trans hF19 hx48
 replace hF33 := Mm.ext.trans hF33 hx48
 refine WL_y (Y_move (.tuple #[.agg c48_0.toArray, v48_1, .int .i64 r49.2.2]) rfl) <|WL_y (Y_extract (v := .agg c48_0.toArray) rfl rfl) <|WL_y (Y_extract (v := v48_1) rfl rfl) <|WL_y (Y_extract (v := .int .i64 r49.2.2) rfl rfl) ?_
 refine WL_c (O_alloc tz48 hS ?_)
 intro b51 w50 hb51 hS
 replace hS : St w noX M48 [.box b51 (Zr.zc GNode) 48, .box b38 cs43 38, .row v15 9 1, .box b7 cs12 48] w50 := hS
 have zb51 : rep M48 (Zr.zc GNode) (Zr.zd : GNode) := Zr.zr
 have hw53 : (c48_0 : List Value).length = 201 := Rep.len f48_0
 have hl53 : ((Zr.zc GNode)).length = 201 := Rep.len zb51
 obtain ⟨d54, hd53, hz⟩ := bind_ok hz
 have hb53 : rep M48 (pt (Zr.zc GNode) (0) c48_0) d54 := rep_eq (rep_whole (k := 201) (by rw [pt_length (by omega)]; exact hl53) (rep_leaf rfl f48_0 (by omega))) hd53
 generalize hg53 : (pt (Zr.zc GNode) (0) c48_0) = cs53 at hb53
 refine WL_c (O_st (j := 0) (v := .agg c48_0.toArray) (ws := c48_0) hS rfl (by kernel_rfl) rfl rfl rfl hw53 (Rep.one f48_0) (by omega) ?_)
 rw [hg53]
 clear hg53
 intro w52 hS
 replace hS : St w noX M48 [.box b51 cs53 48, .box b38 cs43 38, .row v15 9 1, .box b7 cs12 48] w52 := hS
 refine WL_d 2 rfl ?_
 refine WL_nil (nm_then ?_)
 refine W_seq <|W_reg ?_
 have ha55 := (rep_root (k := 7) rfl hb43)
 refine WL_y (Y_ldn ta38 rfl (hS.bvB 1 rfl) (Rep.len ha55)) ?_
 obtain ⟨r58, hr57, hz⟩ := bind_ok hz
 refine WL_c (O_val (vs := [.agg (sl cs43 (0) 7).toArray]) (v := .tuple #[.string r58.1, .int .i64 r58.2]) cb37 (args1 rfl) hS (encode_ok hS.agree ha55 hr57) ?_)
 intro w56 hS
 refine WL_y (Y_move (.tuple #[.string r58.1, .int .i64 r58.2]) rfl) <|WL_y (Y_extract (v := .string r58.1) rfl rfl) <|WL_y (Y_extract (v := .int .i64 r58.2) rfl rfl) <|WL_d 2 rfl ?_
 refine WL_nil (nm_then ?_)
 refine W_seqJ (fun T' w' => ∃ M60, Mm.ext w.heap.size noX M48 M60 ∧ St w noX M60 [.box b51 cs53 48, .box b38 cs43 38, .row v15 9 1, .box b7 cs12 48] w' ∧ T' 0 = .int .i64 r5 ∧ T' 1 = vx2 ∧ T' 5 = .pointer (some ⟨b7, 0, none⟩) ∧ T' 6 = v15 ∧ T' 7 = .int .i64 y16 ∧ T' 9 = .pointer (some ⟨b51, 0, none⟩) ∧ T' 12 = .string r58.1 ∧ nodeLogs_j3 l14 y16 rec17 d54 r58 = some r) ?_ ?_
 have hF79 := Mm.ext.refl w.heap.size noX M48
 refine W_seqJ (fun T' w' => ∃ M81 c83, Mm.ext w.heap.size noX M48 M81 ∧ St w noX M81 [.box b51 cs53 48, .box b38 cs43 38, .row v15 9 1, .box b7 cs12 48] w' ∧ T' 0 = .int .i64 r5 ∧ T' 1 = vx2 ∧ T' 5 = .pointer (some ⟨b7, 0, none⟩) ∧ T' 6 = v15 ∧ T' 7 = .int .i64 y16 ∧ T' 9 = .pointer (some ⟨b51, 0, none⟩) ∧ T' 12 = .string r58.1 ∧ T' 52 = .bool c83 ∧ nodeLogs_j4 d13 l14 y16 rec17 d54 r58 c83 = some r) ?_ ?_
 have hF86 := Mm.ext.refl w.heap.size noX M48
 refine W_reg <|WL_y (Y_move (.int .i64 r49.2.2) rfl) <|WL_y (Y_neq rfl rfl) <|WL_y (Y_move (.bool (r49.2.2 != 0)) rfl) ?_
 rcases ic hz with ⟨hc87, hz⟩ | ⟨hc87, hz⟩ <;> rw [hc87]
 refine WL_d 3 rfl ?_
 refine WL_nil (nm_then ?_)
 exact ⟨M48, true, hF86, hS, hT23_0, hT23_1, hT23_5, hT23_6, hT23_7, rfl, rfl, rfl, hz⟩
 refine WL_gy rfl rfl (Y_move (.int .i64 r58.2) rfl) <|WL_gy rfl rfl (Y_neq rfl rfl) <|WL_y (Y_pick_f (.bool (r58.2 != 0)) rfl rfl) ?_
 refine WL_nil (nm_then ?_)
 exact ⟨M48, (r58.2 != 0), hF86, hS, hT23_0, hT23_1, hT23_5, hT23_6, hT23_7, rfl, rfl, rfl, hz⟩
 rintro T82 w80 ⟨M81, c83, hx84, hS, hT82_0, hT82_1, hT82_5, hT82_6, hT82_7, hT82_9, hT82_12, hT82_52, hz⟩
 replace hvx2 := repL.mono hx84.1 hvx2
 replace hb12 := Rep.mono hx84.1 hb12
 replace hv15 := repL.mono hx84.1 hv15
 replace hb43 := Rep.mono hx84.1 hb43
 replace hb53 := Rep.mono hx84.1 hb53
 replace hE := Mm.ext.trans hE hx84
 replace hF19 := Mm.ext.trans hF19 hx84
 replace hF33 := Mm.ext.trans hF33 hx84
 replace hF79 := Mm.ext.trans hF79 hx84
 rw [nodeLogs_j4] at hz
 refine W_cond hT82_52 (fun hc85 => ?_) (fun hc85 => ?_)
 replace hz := bif_ok_t hz hc85
 refine W_exit <|ex_then <|ex_hit ?_
 refine (nm_then ?_)
 exact ⟨M81, cs12, d13, v15, l14, hF33, (St.dropB (St.dropB hS hb51) hb38), hb12, hv15, hT82_0, hT82_1, hT82_5, hT82_6, hT82_7, hz⟩
 replace hz := bif_ok_f hz hc85
 refine W_skip (nm_then ?_)
 exact ⟨M81, hF79, hS, hT82_0, hT82_1, hT82_5, hT82_6, hT82_7, hT82_9, hT82_12, hz⟩
 rintro T61 w59 ⟨M60, hx62, hS, hT61_0, hT61_1, hT61_5, hT61_6, hT61_7, hT61_9, hT61_12, hz⟩
 replace hvx2 := repL.mono hx62.1 hvx2
 replace hb12 := Rep.mono hx62.1 hb12
 replace hv15 := repL.mono hx62.1 hv15
 replace hb43 := Rep.mono hx62.1 hb43
 replace hb53 := Rep.mono hx62.1 hb53
 replace hE := Mm.ext.trans hE hx62
 replace hF19 := Mm.ext.trans hF19 hx62
 replace hF33 := Mm.ext.trans hF33 hx62
 rw [nodeLogs_j3] at hz
 refine W_drawB (Rd M60 [.box b51 cs53 48]) (inL []) mixed hS fun w63 hS => ?_
 have hG64 := Mm.ext.refl w.heap.size noX M60
 have hR65 : Rd M60 [.box b51 cs53 48] w63 := Rd.of hS hG64 (by simp)
 have ha66 := (rep_root (k := 201) rfl hb53)
 refine WB_ld (i := 0) rfl (by kernel_rfl) rfl (inL_lt rfl) (by kernel_rfl) (by kernel_rfl) (Y_ldn ta48 hT61_9 (bvR 0 rfl) (Rep.len ha66)) hR65 <|WB_y (i := 1) rfl (by kernel_rfl) rfl (Y_move (v15) hT61_6) (fun _ => hR65) <|WB_y (i := 2) rfl (by kernel_rfl) rfl (Y_move (.string r58.1) hT61_12) (fun _ => hR65) ?_
 obtain ⟨_, hx68, hz⟩ := bind_ok hz
 have hx68 := chkS_some hx68
 refine WB_one (i := 3) (by kernel_rfl) rfl (O_bslice (α := ByteArray) (l := ([r58.1] : List ByteArray)) [.string r58.1] tl69 (bpc rfl bp0) rfl rfl (by decide) (by decide) (by decide) hS (brc (rep_str hx68 : rep M60 [Value.string r58.1] r58.1) br0) ?_)
 intro v69 M69 w67 hx69 hv69 hS
 replace hvx2 := repL.mono hx69.1 hvx2
 replace hb12 := Rep.mono hx69.1 hb12
 replace hv15 := repL.mono hx69.1 hv15
 replace hb43 := Rep.mono hx69.1 hb43
 replace hb53 := Rep.mono hx69.1 hb53
 replace ha66 := Rep.mono hx69.1 ha66
 replace hE := Mm.ext.trans hE hx69
 replace hF19 := Mm.ext.trans hF19 hx69
 replace hF33 := Mm.ext.trans hF33 hx69
 replace hG64 := Mm.ext.trans hG64 hx69
 have hR70 : Rd M60 [.box b51 cs53 48] w67 := Rd.of hS hG64 (by simp)
 refine ⟨fun _ => hR70, ?_⟩
 obtain ⟨l73, hr72, hz⟩ := bind_ok hz
 obtain ⟨hy72, hs72⟩ := app_some hr72
 refine WB_one (i := 4) (by kernel_rfl) rfl (O_app (α := ByteArray) (j := 2) tp69 hS rfl rfl rfl hv15 hv69 hy72 ?_)
 intro v72 M72 w71 hx72 hv72 hS
 rw [← hs72] at hv72
 clear hr72 hs72
 replace hvx2 := repL.mono hx72.1 hvx2
 replace hb12 := Rep.mono hx72.1 hb12
 replace hv15 := repL.mono hx72.1 hv15
 replace hb43 := Rep.mono hx72.1 hb43
 replace hb53 := Rep.mono hx72.1 hb53
 replace ha66 := Rep.mono hx72.1 ha66
 replace hv69 := repL.mono hx72.1 hv69
 replace hE := Mm.ext.trans hE hx72
 replace hF19 := Mm.ext.trans hF19 hx72
 replace hF33 := Mm.ext.trans hF33 hx72
 replace hG64 := Mm.ext.trans hG64 hx72
 replace hS : St w noX M72 [.box b51 cs53 48, .box b38 cs43 38, .row v72 9 1, .box b7 cs12 48] w71 := hS
 have hR74 : Rd M60 [.box b51 cs53 48] w71 := Rd.of hS hG64 (by simp)
 refine ⟨fun _ => hR74, ?_⟩
 have hw76 : ((sl cs53 (0) 201) : List Value).length = 201 := Rep.len ha66
 have hl76 : (cs12).length = 201 := Rep.len hb12
 obtain ⟨d77, hd76, hz⟩ := bind_ok hz
 have hb76 : rep M72 (pt cs12 (0) (sl cs53 (0) 201)) d77 := rep_eq (rep_whole (k := 201) (by rw [pt_length (by omega)]; exact hl76) (rep_leaf rfl ha66 (by omega))) hd76
 generalize hg76 : (pt cs12 (0) (sl cs53 (0) 201)) = cs76 at hb76
 refine WB_one (i := 5) (by kernel_rfl) rfl (O_st (j := 3) (v := .agg (sl cs53 (0) 201).toArray) (ws := (sl cs53 (0) 201)) hS rfl (by kernel_rfl) hT61_5 rfl rfl hw76 (Rep.one ha66) (by omega) ?_)
 rw [hg76]
 clear hg76
 intro w75 hS
 replace hS : St w noX M72 [.box b51 cs53 48, .box b38 cs43 38, .row v72 9 1, .box b7 cs76 48] w75 := hS
 have hR78 : Rd M60 [.box b51 cs53 48] w75 := Rd.of hS hG64 (by simp)
 refine ⟨fun _ => hR78, ?_⟩
 refine WB_y (i := 6) rfl (by kernel_rfl) rfl (Y_assign (v72) rfl) (fun _ => hR78) ?_
 refine WB_done (by kernel_rfl) (nm_blk ?_)
 refine (nm_then ?_)
 exact ⟨M72, cs76, d77, v72, l73, hF33, (St.dropB (St.dropB hS hb51) hb38), hb76, hv72, hT61_0, hT61_1, hT61_5, rfl, hT61_7, hz⟩
 rintro T27 w25 ⟨M26, cs28, d29, v31, l30, hx32, hS, hb28, hv31, hT27_0, hT27_1, hT27_5, hT27_6, hT27_7, hz⟩
 replace hvx2 := repL.mono hx32.1 hvx2
 replace hE := Mm.ext.trans hE hx32
 replace hF19 := Mm.ext.trans hF19 hx32
 rw [nodeLogs_j2] at hz
 refine W_reg <|WL_y (Y_move (.int .i64 y16) hT27_7) <|WL_y (Y_add rfl rfl) <|WL_y (Y_assign (.int .i64 (IntKind.wrap .i64 (y16 + 1))) rfl) ?_
 refine WL_nil (nm_then ?_)
 exact ⟨M26, cs28, d29, v31, l30, (IntKind.wrap .i64 (y16 + 1)), hF19, hS, hb28, hv31, hT27_0, hT27_1, hT27_5, hT27_6, rfl, (by rw [← hrec17]; exact hz)⟩
end Go.Proofs.Ytopgdemmdcipcaa
namespace Go.Proofs.Ytopgdemmdcipcaa
open Go.RowKit
open Rep (rep)
noncomputable def replayZ (who : Int) : List ByteArray → GNode → GNode × Int
  | [], s => (s, 0)
  | x :: t, s => bif (decZ (byL x)).2 != 0 then (zeroN, (decZ (byL x)).2) else bif (takeN s who (decZ (byL x)).1).2.2 != 0 then (zeroN, (takeN s who (decZ (byL x)).1).2.2) else replayZ who t (takeN s who (decZ (byL x)).1).1
theorem nodeReplay_l1_eq {fu : Nat} (hfu : 300 ≤ fu) {who : Int} {l : List ByteArray} (hl : l.length ≤ 17592186043904) (hs : ∀ x ∈ l, x.size ≤ 140737488351232) (z : GNode) : ∀ (n m k : Nat) (s : GNode), l.length = k + m → m < n → GoodN s → nodeReplay_l1 fu who l n s z k = some (replayZ who (l.drop k) s)
  | 0, m, k, _, _, h, _ => absurd h (by omega)
  | n + 1, 0, k, s, hk, _, _ => by
    rw [nodeReplay_l1, bif_f (dec_f (by omega)), some_bind, List.drop_of_length_le (by omega)]
    rfl
  | n + 1, m + 1, k, s, hk, hn, hg => by
    have hlt : k < l.length := by omega
    have hx := hs _ (List.getElem_mem hlt)
    have ih := fun s hg => nodeReplay_l1_eq hfu hl hs (who := who) z n m (k + 1) s (by omega) (by omega) hg
    rw [nodeReplay_l1, bif_t (dec_t (by omega)), idx_nat, List.getElem?_eq_getElem hlt, some_bind, decodeD_eq (by omega) hx, some_bind, some_bind, List.drop_eq_getElem_cons hlt]
    generalize l[k] = x
    rw [replayZ, wrs k (by omega)]
    cases h1 : ((decZ (byL x)).2 != 0)
    · rw [cond_false, cond_false, nodeTakeD_eq hg.sizes (by omega) (by omega), some_bind, some_bind]
      cases h2 : ((takeN s who (decZ (byL x)).1).2.2 != 0)
      · rw [cond_false, cond_false]
        exact ih _ (takeN_good (by simpa using h2))
      · rfl
    · rfl
theorem nodeReplayD_eq {fu : Nat} {who : Int} {l : List ByteArray} (hfu : l.length + 300 ≤ fu) (hl : l.length ≤ 17592186043904) (hs : ∀ x ∈ l, x.size ≤ 140737488351232) : nodeReplayD fu who l = some (bif decide (0 ≤ who ∧ who < 6) then replayZ who l zeroN else (zeroN, 2)) := by
  unfold nodeReplayD
  rw [nodeIsD_eq, some_bind]
  cases decide (0 ≤ who ∧ who < 6)
  · rfl
  · rw [bif_f (c := !true) rfl, cond_true]
    exact nodeReplay_l1_eq (by omega) hl hs _ fu l.length 0 zeroN (by omega) (by omega) zero_good
theorem dec_enc {f : GFrame} (hz : frameZ f = 0) : (encP f).2 = 0 ∧ decZ (byL (encP f).1) = (f, 0) ∧ (encP f).1.size ≤ 100 := by
  have hf := FOk_of hz
  obtain ⟨hb, hl⟩ := enc_bytes hf
  have hby := byL_str hb
  have hsz := byL_len (strOfNums (encZ f))
  rw [hby] at hsz
  have hpar := parse_enc hf []
  rw [List.append_nil] at hpar
  unfold encP
  rw [if_pos hz]
  refine ⟨rfl, ?_, by show (strOfNums (encZ f)).size ≤ 100; omega⟩
  show decZ (byL (strOfNums (encZ f))) = _
  rw [hby]
  unfold decZ
  rw [hpar]
  show (bif frameZ f == 0 then (f, 0) else (noF, (1 : Int))) = _
  rw [hz]; rfl
theorem replayZ_snoc {who : Int} {x : ByteArray} : ∀ (l : List ByteArray) (s t : GNode), replayZ who l s = (t, 0) → replayZ who (l ++ [x]) s = replayZ who [x] t
  | [], s, t, h => by
    have : s = t := congrArg Prod.fst h
    rw [this]
    rfl
  | y :: l, s, t, h => by
    rw [replayZ] at h
    rw [List.cons_append, replayZ]
    cases h1 : ((decZ (byL y)).2 != 0)
    · rw [h1, cond_false] at h
      rw [cond_false]
      cases h2 : ((takeN s who (decZ (byL y)).1).2.2 != 0)
      · rw [h2, cond_false] at h
        rw [cond_false]
        exact replayZ_snoc l _ t h
      · rw [h2, cond_true] at h
        have h : (takeN s who (decZ (byL y)).1).2.2 = 0 := congrArg Prod.snd h
        rw [h] at h2
        cases h2
    · rw [h1, cond_true] at h
      have h : (decZ (byL y)).2 = 0 := congrArg Prod.snd h
      rw [h] at h1
      cases h1
theorem nodeLogs_l1_eq {fu : Nat} {l : List GFrame} {who : Int} (hw : 0 ≤ who ∧ who < 6) (hfu : 400 ≤ fu) : ∀ (n m k : Nat) (s : GNode) (log : List ByteArray), k + m = 40 → m < n → GoodN s → log.length ≤ k → (∀ x ∈ log, x.size ≤ 100) → replayZ who log zeroN = (s, 0) → nodeLogs_l1 fu l who n s log k = some true := by
  have hb : Rep.bytes ByteArray = 16 := rfl
  have hend : ∀ (s : GNode) (log : List ByteArray) (k : Int) (rec : GNode → List ByteArray → Int → Option Bool), GoodN s → log.length ≤ 40 → (∀ x ∈ log, x.size ≤ 100) → replayZ who log zeroN = (s, 0) → nodeLogs_j5 fu l who s log k rec false = some true := fun s log k rec hg hlog hsz h => by
    unfold nodeLogs_j5
    rw [cond_false, nodeReplayD_eq (by omega) (by omega) (fun x hx => by have := hsz x hx; omega), dec_t hw, cond_true, h, some_bind, some_bind, bif_t (by rfl), keepSameNodeD_refl hg.sizes (by omega), some_bind, cond_true, keepTakesD_eq (by omega), some_bind, nodeLogs_j6]
  intro n
  induction n with
  | zero => intro m k s log _ h; omega
  | succ n ih =>
    intro m k s log hk hn hg hlog hsz h
    rw [nodeLogs_l1]
    by_cases hl : (k : Int) < (l.length : Int)
    · rw [bif_t (dec_t hl)]
      by_cases h40 : (k : Int) < 40
      · obtain ⟨m', rfl⟩ : ∃ m', m = m' + 1 := ⟨m - 1, by omega⟩
        have hlt : k < l.length := by omega
        rw [dec_t h40, nodeLogs_j5, cond_true, nodeLogs_j1, idx_nat, List.getElem?_eq_getElem hlt, some_bind, some_bind, some_bind, nodeTakeD_eq hg.sizes (by omega) (by omega), some_bind, some_bind]
        generalize hf : ({ l[k] with node := who } : GFrame) = f
        rw [encodeD_eq f (by omega), some_bind]
        unfold nodeLogs_j4 nodeLogs_j3 nodeLogs_j2
        rw [wrs k (by omega)]
        by_cases h0 : (takeN s who f).2.2 = 0
        · obtain ⟨_, _, _, hz, _⟩ := takeN_ok h0
          obtain ⟨e1, e2, e3⟩ := dec_enc hz
          rw [bif_f (by simp [h0]), e1, bif_f (by rfl), chkS_ok (by omega), some_bind, app_ok (by rw [hb]; simp only [List.length_singleton]; omega), some_bind, some_bind]
          refine ih m' (k + 1) _ _ (by omega) (by omega) (takeN_good h0) (by simp; omega) (fun x hx => ?_) ?_
          · rcases List.mem_append.1 hx with hx | hx
            · exact hsz x hx
            · rw [List.mem_singleton.1 hx]; exact e3
          · rw [replayZ_snoc log zeroN s h, replayZ, e2]
            show (bif (0 : Int) != 0 then _ else bif (takeN s who f).2.2 != 0 then _ else replayZ who [] (takeN s who f).1) = _
            rw [h0]
            rfl
        · rw [bif_t (by simpa using h0), cond_true]
          exact ih m' (k + 1) _ _ (by omega) (by omega) hg (by omega) hsz h
      · rw [dec_f h40]
        exact hend s log k _ hg (by omega) hsz h
    · rw [bif_f (dec_f hl)]
      exact hend s log k _ hg (by omega) hsz h
theorem nodeLogsD_eq {fu : Nat} {l : List GFrame} {x : Int} (hfu : 400 ≤ fu) : nodeLogsD fu x l = some true := by
  unfold nodeLogsD
  obtain ⟨k, hk, hk6⟩ := pick_range (x := x) (n := 6) (by omega) (by omega) (fu := fu)
  rw [hk, some_bind]
  exact nodeLogs_l1_eq (by omega) hfu fu 40 0 zeroN [] (by omega) (by omega) zero_good (by simp) (fun x hx => by cases hx) rfl
end Go.Proofs.Ytopgdemmdcipcaa
namespace Go.Proofs.Ytopgdemmdcipcaa
open Go.RowKit
open Rep (rep)
theorem op3 : Opn Try.prog 3 Int := opn_int Try.underlying3 (by kernel_rfl)
theorem op78 : Opn Try.prog 78 GOp := ⟨by kernel_rfl, fun H enc w fuel cs d p h hw => by
  have hl : cs.length = 3 := by obtain ⟨_, _, _, _, hl, _⟩ := DataW.trod_struct Try.underlying78 h; rw [hl]; kernel_rfl
  obtain ⟨x0, h0⟩ := opn_field (α := Int) (o := 0) (k := 1) Try.underlying78 h hw 0 _ rfl rfl rfl (by kernel_rfl) op3
  obtain ⟨x1, h1⟩ := opn_field (α := Int) (o := 1) (k := 1) Try.underlying78 h hw 1 _ rfl rfl rfl (by kernel_rfl) op3
  obtain ⟨x2, h2⟩ := opn_field (α := Int) (o := 2) (k := 1) Try.underlying78 h hw 2 _ rfl rfl rfl (by kernel_rfl) op3
  exact ⟨⟨x0, x1, x2⟩, GOp.fol ⟨hl, h0, h1, h2⟩⟩⟩
theorem op22 : Opn Try.prog 22 (List (GOp)) := opn_slice Try.underlying22 (by kernel_rfl) op78 (by decide) (by kernel_rfl)
theorem op27 : Opn Try.prog 27 (List (Int)) := opn_slice Try.underlying27 (by kernel_rfl) op3 (by decide) (by kernel_rfl)
theorem op38 : Opn Try.prog 38 GFrame := ⟨by kernel_rfl, fun H enc w fuel cs d p h hw => by
  have hl : cs.length = 7 := by obtain ⟨_, _, _, _, hl, _⟩ := DataW.trod_struct Try.underlying38 h; rw [hl]; kernel_rfl
  obtain ⟨x0, h0⟩ := opn_field (α := Int) (o := 0) (k := 1) Try.underlying38 h hw 0 _ rfl rfl rfl (by kernel_rfl) op3
  obtain ⟨x1, h1⟩ := opn_field (α := Int) (o := 1) (k := 1) Try.underlying38 h hw 1 _ rfl rfl rfl (by kernel_rfl) op3
  obtain ⟨x2, h2⟩ := opn_field (α := Int) (o := 2) (k := 1) Try.underlying38 h hw 2 _ rfl rfl rfl (by kernel_rfl) op3
  obtain ⟨x3, h3⟩ := opn_field (α := List (GOp)) (o := 3) (k := 1) Try.underlying38 h hw 3 _ rfl rfl rfl (by kernel_rfl) op22
  obtain ⟨x4, h4⟩ := opn_field (α := List (Int)) (o := 4) (k := 1) Try.underlying38 h hw 4 _ rfl rfl rfl (by kernel_rfl) op27
  obtain ⟨x5, h5⟩ := opn_field (α := List (Int)) (o := 5) (k := 1) Try.underlying38 h hw 5 _ rfl rfl rfl (by kernel_rfl) op27
  obtain ⟨x6, h6⟩ := opn_field (α := List (Int)) (o := 6) (k := 1) Try.underlying38 h hw 6 _ rfl rfl rfl (by kernel_rfl) op27
  exact ⟨⟨x0, x1, x2, x3, x4, x5, x6⟩, GFrame.fol ⟨hl, h0, h1, h2, h3, h4, h5, h6⟩⟩⟩
theorem op25 : Opn Try.prog 25 (List (GFrame)) := opn_slice Try.underlying25 (by kernel_rfl) op38 (by decide) (by kernel_rfl)
end Go.Proofs.Ytopgdemmdcipcaa
