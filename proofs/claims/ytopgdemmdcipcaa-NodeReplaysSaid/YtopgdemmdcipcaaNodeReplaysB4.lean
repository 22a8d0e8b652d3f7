/- What the proof of NodeReplays rests on, part 4: rules of walks, what functions compute, and plain laws of it. -/
import Derived.Test.YtopgdemmdcipcaaNodeReplaysB3
namespace Go.Proofs.Ytopgdemmdcipcaa
open Go.RowKit
open Rep (rep)
set_option linter.unusedVariables false
def nodeIs_j1 (c5 : Bool) : Option Bool :=
 some c5
def nodeIsD (fu : Nat) (x1 : Int) : Option Bool :=
 (bif decide (x1 ≥ 0) then
 nodeIs_j1 (decide (x1 < 6))
 else
 nodeIs_j1 false)
set_option maxRecDepth 100000 in
set_option maxHeartbeats 4000000 in
theorem nodeIs_ok {M : Mm} {w : World} {x1 : Int} {fu : Nat} {r : Bool} (hA : Agree M w)  (hz : nodeIsD fu x1 = some r) :
    Calls Try.prog 51 #[.int .i64 x1] w (GivesV w (.bool r)) := by
 refine calls_W Try.func51 rfl 9 rfl rfl (by kernel_rfl) fun T hT => ?_
 have hT_0 : T 0 = .int .i64 x1 := hT 0
 clear hT
 have hE := Mm.ext.refl w.heap.size noX M
 have hS : St w noX M [] w := St.start hA
 rw [nodeIsD] at hz
 refine W_seq <|W_reg <|WL_y (Y_assign (.bool false) rfl) ?_
 refine WL_nil (nm_then ?_)
 refine W_seqJ (fun T' w' => ∃ M3 c5, Mm.ext w.heap.size noX M M3 ∧ St w noX M3 [] w' ∧ T' 2 = .bool c5 ∧ nodeIs_j1 c5 = some r) ?_ ?_
 have hF7 := Mm.ext.refl w.heap.size noX M
 refine W_reg <|WL_y (Y_move (.int .i64 x1) hT_0) <|WL_y (Y_geq rfl rfl) <|WL_y (Y_move (.bool (decide (x1 ≥ 0))) rfl) ?_
 rcases ic hz with ⟨hc8, hz⟩ | ⟨hc8, hz⟩ <;> rw [hc8]
 refine WL_gy rfl rfl (Y_move (.int .i64 x1) hT_0) <|WL_gy rfl rfl (Y_lss rfl rfl) <|WL_d 2 rfl ?_
 refine WL_nil (nm_then ?_)
 exact ⟨M, (decide (x1 < 6)), hF7, hS, rfl, hz⟩
 refine WL_d 4 rfl ?_
 refine WL_nil (nm_then ?_)
 exact ⟨M, false, hF7, hS, rfl, hz⟩
 rintro T4 w2 ⟨M3, c5, hx6, hS, hT4_2, hz⟩
 replace hE := Mm.ext.trans hE hx6
 rw [nodeIs_j1] at hz
 cases hz
 exact W_ret (R_t1 rfl hT4_2 ⟨rfl, hS.kept⟩)
def nodeGood_j1 (y17 : Int) (rec18 : (Vector Bool 32) → Int → Option Bool) (d27 : Vector Bool 32) : Option Bool :=
 rec18 d27 (IntKind.wrap .i64 (y17 + 1))
def nodeGood_j2 (d16 : Vector Bool 32) (y17 : Int) (rec18 : (Vector Bool 32) → Int → Option Bool) (x31 : Int) : Option Bool :=
 (inR x31 32).bind fun _ =>
 (idxV d16 x31).bind fun x40 =>
 (setV d16 x31 true).bind fun a42 =>
 (some a42).bind fun d44 =>
 nodeGood_j1 y17 rec18 d44
def nodeGood_j3 (d16 : Vector Bool 32) (y17 : Int) (rec18 : (Vector Bool 32) → Int → Option Bool) (x31 : Int) (c49 : Bool) : Option Bool :=
 (bif c49 then
 some false
 else
 nodeGood_j2 d16 y17 rec18 x31)
def nodeGood_j4 (y68 : Int) (rec69 : Int → Option Bool) : Option Bool :=
 rec69 (IntKind.wrap .i64 (y68 + 1))
def nodeGood_j7 (y111 : Int) (rec112 : Int → Option Bool) : Option Bool :=
 rec112 (IntKind.wrap .i64 (y111 + 1))
def nodeGood_j8 (y111 : Int) (rec112 : Int → Option Bool) (c127 : Bool) : Option Bool :=
 (bif c127 then
 some false
 else
 nodeGood_j7 y111 rec112)
def nodeGood_l3 (y68 : Int) (rec69 : Int → Option Bool) (d85 : GEntry) : Nat → Int → Option Bool
 | 0, _ => none
 | n + 1, y111 =>
 (bif decide (y111 < (d85.at_.length : Int)) then
 (idx d85.at_ y111).bind fun x123 =>
 (bif decide (x123 < 0) then
 nodeGood_j8 y111 (nodeGood_l3 y68 rec69 d85 n) true
 else
 (bif decide (x123 ≥ (d85.ops.length : Int)) then
 nodeGood_j8 y111 (nodeGood_l3 y68 rec69 d85 n) true
 else
 (bif decide (y111 > 0) then
 (idx d85.at_ (IntKind.wrap .i64 (y111 - 1))).bind fun x138 =>
 nodeGood_j8 y111 (nodeGood_l3 y68 rec69 d85 n) (decide (x138 ≥ x123))
 else
 nodeGood_j8 y111 (nodeGood_l3 y68 rec69 d85 n) false)))
 else
 nodeGood_j4 y68 rec69)
def nodeGood_j6 (fu : Nat) (y68 : Int) (rec69 : Int → Option Bool) (d85 : GEntry) : Option Bool :=
 nodeGood_l3 y68 rec69 d85 fu 0
def nodeGood_j9 (fu : Nat) (y68 : Int) (rec69 : Int → Option Bool) (d85 : GEntry) (c143 : Bool) : Option Bool :=
 (bif c143 then
 some false
 else
 nodeGood_j6 fu y68 rec69 d85)
def nodeGood_j5 (fu : Nat) (y68 : Int) (rec69 : Int → Option Bool) (d85 : GEntry) : Option Bool :=
 (bif d85.state == 0 then
 (bif decide ((IntKind.wrap .i64 ((IntKind.wrap .i64 ((IntKind.wrap .i64 ((IntKind.wrap .i64 ((d85.ops.length : Int) + (d85.first.length : Int))) + (d85.deps.length : Int))) + (d85.at_.length : Int))) + (d85.values.length : Int))) > 0) then
 some false
 else
 nodeGood_j4 y68 rec69)
 else
 (some (goodOpsZ d85.ops)).bind fun r150 =>
 (bif !r150 then
 nodeGood_j9 fu y68 rec69 d85 true
 else
 (some (risingZ d85.first)).bind fun r155 =>
 (bif !r155 then
 nodeGood_j9 fu y68 rec69 d85 true
 else
 (some (risingZ d85.deps)).bind fun r160 =>
 (bif !r160 then
 nodeGood_j9 fu y68 rec69 d85 true
 else
 (some (hasZ d85.first y68)).bind fun r165 =>
 (bif r165 then
 nodeGood_j9 fu y68 rec69 d85 true
 else
 (some (hasZ d85.deps y68)).bind fun r170 =>
 (bif r170 then
 nodeGood_j9 fu y68 rec69 d85 true
 else
 (bif d85.state == 1 then
 (bif decide ((d85.deps.length : Int) > 0) then
 nodeGood_j9 fu y68 rec69 d85 true
 else
 (bif d85.state != 3 then
 (bif decide ((d85.at_.length : Int) > 0) then
 nodeGood_j9 fu y68 rec69 d85 true
 else
 nodeGood_j9 fu y68 rec69 d85 ((d85.at_.length : Int) != (d85.values.length : Int)))
 else
 nodeGood_j9 fu y68 rec69 d85 ((d85.at_.length : Int) != (d85.values.length : Int))))
 else
 (bif d85.state != 3 then
 (bif decide ((d85.at_.length : Int) > 0) then
 nodeGood_j9 fu y68 rec69 d85 true
 else
 nodeGood_j9 fu y68 rec69 d85 ((d85.at_.length : Int) != (d85.values.length : Int)))
 else
 nodeGood_j9 fu y68 rec69 d85 ((d85.at_.length : Int) != (d85.values.length : Int))))))))))
def nodeGood_j10 (fu : Nat) (y68 : Int) (rec69 : Int → Option Bool) (d85 : GEntry) (c204 : Bool) : Option Bool :=
 (bif c204 then
 some false
 else
 nodeGood_j5 fu y68 rec69 d85)
def nodeGood_l2 (fu : Nat) (x1 : GNode) (d16 : Vector Bool 32) : Nat → Int → Option Bool
 | 0, _ => none
 | n + 1, y68 =>
 (bif decide (y68 < 32) then
 (idxV x1.entries y68).bind fun x79 =>
 (some x79).bind fun d85 =>
 (bif decide (d85.state < 0) then
 nodeGood_j10 fu y68 (nodeGood_l2 fu x1 d16 n) d85 true
 else
 (bif decide (d85.state > 3) then
 nodeGood_j10 fu y68 (nodeGood_l2 fu x1 d16 n) d85 true
 else
 (inR y68 32).bind fun _ =>
 (idxV d16 y68).bind fun x215 =>
 nodeGood_j10 fu y68 (nodeGood_l2 fu x1 d16 n) d85 (!((d85.state == 3) == x215))))
 else
 some true)
def nodeGood_l1 (fu : Nat) (x1 : GNode) : Nat → (Vector Bool 32) → Int → Option Bool
 | 0, _, _ => none
 | n + 1, d16, y17 =>
 (bif decide (y17 < (x1.order.length : Int)) then
 (idx x1.order y17).bind fun x31 =>
 (bif decide (x31 < 0) then
 nodeGood_j3 d16 y17 (nodeGood_l1 fu x1 n) x31 true
 else
 (bif decide (x31 ≥ 32) then
 nodeGood_j3 d16 y17 (nodeGood_l1 fu x1 n) x31 true
 else
 (inR x31 32).bind fun _ =>
 (idxV d16 x31).bind fun x57 =>
 (bif x57 then
 nodeGood_j3 d16 y17 (nodeGood_l1 fu x1 n) x31 true
 else
 (inR x31 32).bind fun _ =>
 (idxV x1.entries x31).bind fun x62 =>
 nodeGood_j3 d16 y17 (nodeGood_l1 fu x1 n) x31 (x62.state != 3))))
 else
 nodeGood_l2 fu x1 d16 fu 0)
def nodeGoodD (fu : Nat) (x1 : GNode) : Option Bool :=
 (some (Zr.zd : Vector Bool 32)).bind fun d9 =>
 nodeGood_l1 fu x1 fu d9 0
set_option maxRecDepth 100000 in
set_option maxHeartbeats 4000000 in
theorem nodeGood_ok {M : Mm} {w : World} {cx1 : List Value} {x1 : GNode} {fu : Nat} {r : Bool} (hA : Agree M w) (hcx1 : rep M cx1 x1) (hz : nodeGoodD fu x1 = some r) :
    Calls Try.prog 21 #[.agg cx1.toArray] w (GivesV w (.bool r)) := by
 refine calls_W Try.func21 rfl 178 rfl rfl (by kernel_rfl) fun T hT => ?_
 have hT_0 : T 0 = .agg cx1.toArray := hT 0
 clear hT
 have hE := Mm.ext.refl w.heap.size noX M
 have hS : St w noX M [] w := St.start hA
 rw [nodeGoodD] at hz
 refine W_seq <|W_reg ?_
 refine WL_c (O_box (v := .agg cx1.toArray) (cs := cx1) hT_0 rfl hS ?_)
 intro b3 w2 hb3 hS
 refine WL_y (Y_assign (.bool false) rfl) ?_
 refine WL_nil (nm_then ?_)
 refine W_seq <|W_reg ?_
 have z4 : rep M (Zr.zc (Vector Bool 32)) (Zr.zd : Vector Bool 32) := Zr.zr
 refine WL_y (Y_zarr tz61 ia61) ?_
 refine WL_c (O_alloc tz61 hS ?_)
 intro b6 w5 hb6 hS
 have zb6 : rep M (Zr.zc (Vector Bool 32)) (Zr.zd : Vector Bool 32) := Zr.zr
 obtain ⟨d9, hd8, hz⟩ := bind_ok hz
 refine WL_c (O_sx 0 32 hS rfl zb6 rfl rfl z4 rfl rfl (Lf (rr zb6) z4) hd8 ?_)
 intro cs8 w7 hb8 ha8 hs8 hS
 refine WL_nil (nm_then ?_)
 refine W_seq <|W_seq <|W_reg <|WL_y (Y_fa fa48_1 rfl) ?_
 obtain ⟨v10, ev10, hv10⟩ := (GNode.p1 (rr hcx1))
 refine WL_y (Y_ld1 v10 ts27 rfl (hS.bvB 1 rfl) ev10) ?_
 obtain ⟨a11, c11, hv11, _⟩ := repL_shape hv10
 refine WL_y (Y_lenL Try.underlying27 (tr2 hv11 rfl)) <|WL_y (Y_move (.int .i64 0) rfl) ?_
 refine WL_nil (nm_then ?_)
 refine W_block ?_
 refine W_loop (fun k19 T' w' => ∃ M13 cs15 d16 y17, Mm.ext w.heap.size noX M M13 ∧ St w noX M13 [.box b6 cs15 61, .box b3 cx1 48] w' ∧ rep M13 cs15 d16 ∧ T' 1 = .pointer (some ⟨b3, 0, none⟩) ∧ T' 3 = .pointer (some ⟨b6, 0, none⟩) ∧ T' 12 = v10 ∧ T' 13 = .int .i64 (x1.order.length : Int) ∧ T' 14 = .int .i64 y17 ∧ nodeGood_l1 fu x1 k19 d16 y17 = some r) fu ?_ ?_ ?_
 exact ⟨M, cs8, d9, (0 : Int), (Mm.ext.refl _ _ _), hS, hb8, rfl, rfl, rfl, rfl, rfl, hz⟩
 rintro T' w' ⟨_, _, _, _, _, _, _, _, _, _, _, _, hz⟩
 rw [nodeGood_l1] at hz
 cases hz
 intro k19
 rintro T14 w12 ⟨M13, cs15, d16, y17, hx21, hS, hb15, hT14_1, hT14_3, hT14_12, hT14_13, hT14_14, hz⟩
 replace hcx1 := Rep.mono hx21.1 hcx1
 replace hv10 := repL.mono hx21.1 hv10
 replace hE := Mm.ext.trans hE hx21
 have hF20 := hx21
 rw [nodeGood_l1] at hz
 obtain ⟨rec18, hrec18⟩ : ∃ f, f = nodeGood_l1 fu x1 k19 := ⟨_, rfl⟩
 rw [← hrec18] at hz
 refine W_seq <|W_reg <|WL_y (Y_lss hT14_14 hT14_13) ?_
 refine WL_nil (nm_then ?_)
 refine W_seq ?_
 refine W_cond rfl (fun hc22 => ?_) (fun hc22 => ?_)
 replace hz := bif_ok_t hz hc22
 refine W_skip (nm_then ?_)
 refine W_seqJ (fun T' w' => ∃ M24 cs26 d27, Mm.ext w.heap.size noX M13 M24 ∧ St w noX M24 [.box b6 cs26 61, .box b3 cx1 48] w' ∧ rep M24 cs26 d27 ∧ T' 1 = .pointer (some ⟨b3, 0, none⟩) ∧ T' 3 = .pointer (some ⟨b6, 0, none⟩) ∧ T' 12 = v10 ∧ T' 13 = .int .i64 (x1.order.length : Int) ∧ T' 14 = .int .i64 y17 ∧ nodeGood_j1 y17 rec18 d27 = some r) ?_ ?_
 have hF29 := Mm.ext.refl w.heap.size noX M13
 refine W_block <|W_seq <|W_reg ?_
 obtain ⟨x31, hx30, hz⟩ := bind_ok hz
 obtain ⟨b30, o30, c30, p30, hv30, hi30, hj30, hM30, hr30⟩ := repL_at hv10 hx30
 replace hr30 : rep _ (sl p30 (o30 + Int.toNat y17 * 1) 1) x31 := hr30
 refine WL_y (Y_ixL il27 hT14_12 hv30 hT14_14 hi30 hj30) <|WL_y (Y_ld1 (.int .i64 x31) ts3 rfl (hS.bvM hM30) hr30) <|WL_y (Y_assign (.int .i64 x31) rfl) ?_
 refine WL_nil (nm_then ?_)
 refine W_seqJ (fun T' w' => ∃ M33, Mm.ext w.heap.size noX M13 M33 ∧ St w noX M33 [.box b6 cs15 61, .box b3 cx1 48] w' ∧ T' 1 = .pointer (some ⟨b3, 0, none⟩) ∧ T' 3 = .pointer (some ⟨b6, 0, none⟩) ∧ T' 5 = .int .i64 x31 ∧ T' 12 = v10 ∧ T' 13 = .int .i64 (x1.order.length : Int) ∧ T' 14 = .int .i64 y17 ∧ nodeGood_j2 d16 y17 rec18 x31 = some r) ?_ ?_
 have hF45 := Mm.ext.refl w.heap.size noX M13
 refine W_seqJ (fun T' w' => ∃ M47 c49, Mm.ext w.heap.size noX M13 M47 ∧ St w noX M47 [.box b6 cs15 61, .box b3 cx1 48] w' ∧ T' 1 = .pointer (some ⟨b3, 0, none⟩) ∧ T' 3 = .pointer (some ⟨b6, 0, none⟩) ∧ T' 5 = .int .i64 x31 ∧ T' 12 = v10 ∧ T' 13 = .int .i64 (x1.order.length : Int) ∧ T' 14 = .int .i64 y17 ∧ T' 36 = .bool c49 ∧ nodeGood_j3 d16 y17 rec18 x31 c49 = some r) ?_ ?_
 have hF52 := Mm.ext.refl w.heap.size noX M13
 refine W_reg <|WL_y (Y_move (.int .i64 x31) rfl) <|WL_y (Y_lss rfl rfl) <|WL_y (Y_move (.bool (decide (x31 < 0))) rfl) ?_
 rcases ic hz with ⟨hc53, hz⟩ | ⟨hc53, hz⟩ <;> rw [hc53]
 refine WL_d 16 rfl ?_
 refine WL_nil (nm_then ?_)
 exact ⟨M13, true, hF52, hS, hT14_1, hT14_3, rfl, hT14_12, hT14_13, hT14_14, rfl, hz⟩
 refine WL_gy rfl rfl (Y_move (.int .i64 x31) rfl) <|WL_gy rfl rfl (Y_geq rfl rfl) <|WL_d 2 rfl ?_
 rcases ic hz with ⟨hc54, hz⟩ | ⟨hc54, hz⟩ <;> rw [hc54]
 refine WL_d 12 rfl ?_
 refine WL_nil (nm_then ?_)
 exact ⟨M13, true, hF52, hS, hT14_1, hT14_3, rfl, hT14_12, hT14_13, hT14_14, rfl, hz⟩
 refine WL_gy rfl rfl (Y_move (.int .i64 x31) rfl) ?_
 obtain ⟨u55, hx56, hz⟩ := bind_ok hz
 obtain ⟨hx56a, hx56b⟩ := inR_some hx56
 refine WL_gy rfl rfl (Y_ixA ia61 hT14_3 rfl hx56a hx56b) ?_
 obtain ⟨x57, hx58, hz⟩ := bind_ok hz
 refine WL_gy rfl rfl (Y_ld1 (.bool x57) ts4 rfl (hS.bvB 0 rfl) (vp (k := 1) rfl rfl (rr hb15) hx58)) <|WL_d 2 rfl ?_
 rcases ic hz with ⟨hc59, hz⟩ | ⟨hc59, hz⟩ <;> rw [hc59]
 refine WL_d 7 rfl ?_
 refine WL_nil (nm_then ?_)
 exact ⟨M13, true, hF52, hS, hT14_1, hT14_3, rfl, hT14_12, hT14_13, hT14_14, rfl, hz⟩
 refine WL_gy rfl rfl (Y_move (.int .i64 x31) rfl) <|WL_gy rfl rfl (Y_fa fa48_0 hT14_1) ?_
 obtain ⟨u60, hx61, hz⟩ := bind_ok hz
 obtain ⟨hx61a, hx61b⟩ := inR_some hx61
 refine WL_gy rfl rfl (Y_ixA ia45 rfl rfl hx61a hx61b) <|WL_gy rfl rfl (Y_fa fa44_0 rfl) ?_
 obtain ⟨x62, hx63, hz⟩ := bind_ok hz
 refine WL_gy rfl rfl (Y_ld1 (.int .i64 x62.state) ts3 rfl (hS.bvB 1 rfl) (GEntry.p0 (vp (k := 6) rfl rfl (GNode.p0 (rr hcx1)) hx63))) <|WL_gy rfl rfl (Y_neq rfl rfl) <|WL_y (Y_pick_f (.bool (x62.state != 3)) rfl rfl) ?_
 refine WL_nil (nm_then ?_)
 exact ⟨M13, (x62.state != 3), hF52, hS, hT14_1, hT14_3, rfl, hT14_12, hT14_13, hT14_14, rfl, hz⟩
 rintro T48 w46 ⟨M47, c49, hx50, hS, hT48_1, hT48_3, hT48_5, hT48_12, hT48_13, hT48_14, hT48_36, hz⟩
 replace hcx1 := Rep.mono hx50.1 hcx1
 replace hv10 := repL.mono hx50.1 hv10
 replace hb15 := Rep.mono hx50.1 hb15
 replace hE := Mm.ext.trans hE hx50
 replace hF20 := Mm.ext.trans hF20 hx50
 replace hF29 := Mm.ext.trans hF29 hx50
 replace hF45 := Mm.ext.trans hF45 hx50
 rw [nodeGood_j3] at hz
 refine W_cond hT48_36 (fun hc51 => ?_) (fun hc51 => ?_)
 replace hz := bif_ok_t hz hc51
 refine W_seq <|W_reg <|WL_y (Y_assign (.bool false) rfl) ?_
 refine WL_nil (nm_then ?_)
 cases hz
 exact W_ret (rt_then (rt_blk (rt_then (rt_then (rt_blk (rt_then (R_t1 rfl rfl ⟨rfl, (St.dropB (St.dropB hS hb6) hb3).kept⟩)))))))
 replace hz := bif_ok_f hz hc51
 refine W_skip (nm_then ?_)
 exact ⟨M47, hF45, hS, hT48_1, hT48_3, hT48_5, hT48_12, hT48_13, hT48_14, hz⟩
 rintro T34 w32 ⟨M33, hx35, hS, hT34_1, hT34_3, hT34_5, hT34_12, hT34_13, hT34_14, hz⟩
 replace hcx1 := Rep.mono hx35.1 hcx1
 replace hv10 := repL.mono hx35.1 hv10
 replace hb15 := Rep.mono hx35.1 hb15
 replace hE := Mm.ext.trans hE hx35
 replace hF20 := Mm.ext.trans hF20 hx35
 replace hF29 := Mm.ext.trans hF29 hx35
 rw [nodeGood_j2] at hz
 refine W_reg <|WL_y (Y_move (.int .i64 x31) hT34_5) ?_
 obtain ⟨u36, hx37, hz⟩ := bind_ok hz
 obtain ⟨hx37a, hx37b⟩ := inR_some hx37
 refine WL_y (Y_ixA ia61 hT34_3 rfl hx37a hx37b) ?_
 obtain ⟨x40, hx41, hz⟩ := bind_ok hz
 obtain ⟨a42, hx43, hz⟩ := bind_ok hz
 obtain ⟨d44, hd39, hz⟩ := bind_ok hz
 refine WL_c (O_sx 0 1 hS rfl hb15 rfl rfl (rb true : rep M33 _ _) rfl rfl (vu (k := 1) rfl rfl (rr hb15) (Lf (vp (k := 1) rfl rfl (rr hb15) hx41) (rb true : rep M33 _ _)) hx43) hd39 ?_)
 intro cs39 w38 hb39 ha39 hs39 hS
 refine WL_nil (nm_blk ?_)
 refine (nm_then ?_)
 exact ⟨M33, cs39, d44, hF29, hS, hb39, hT34_1, hT34_3, hT34_12, hT34_13, hT34_14, hz⟩
 rintro T25 w23 ⟨M24, cs26, d27, hx28, hS, hb26, hT25_1, hT25_3, hT25_12, hT25_13, hT25_14, hz⟩
 replace hcx1 := Rep.mono hx28.1 hcx1
 replace hv10 := repL.mono hx28.1 hv10
 replace hE := Mm.ext.trans hE hx28
 replace hF20 := Mm.ext.trans hF20 hx28
 rw [nodeGood_j1] at hz
 refine W_reg <|WL_y (Y_add hT25_14 rfl) <|WL_y (Y_move (.int .i64 (IntKind.wrap .i64 (y17 + 1))) rfl) ?_
 refine WL_nil (nm_then ?_)
 exact ⟨M24, cs26, d27, (IntKind.wrap .i64 (y17 + 1)), hF20, hS, hb26, hT25_1, hT25_3, hT25_12, hT25_13, rfl, (by rw [← hrec18]; exact hz)⟩
 replace hz := bif_ok_f hz hc22
 refine W_exit <|ex_then <|ex_then <|ex_hit ?_
 refine (nm_then ?_)
 refine W_seq <|W_seq <|W_reg <|WL_y (Y_fa fa48_0 hT14_1) ?_
 have ha64 := (GNode.p0 (rr hcx1))
 refine WL_y (Y_ldn ta45 rfl (hS.bvB 1 rfl) (Rep.len ha64)) <|WL_y (Y_move (.int .i64 0) rfl) ?_
 refine WL_nil (nm_then ?_)
 refine W_block ?_
 refine W_loop (fun k70 T' w' => ∃ M66 y68, Mm.ext w.heap.size noX M13 M66 ∧ St w noX M66 [.box b6 cs15 61, .box b3 cx1 48] w' ∧ T' 3 = .pointer (some ⟨b6, 0, none⟩) ∧ T' 41 = .agg (sl cx1 (0 + 0) 192).toArray ∧ T' 42 = .int .i64 y68 ∧ nodeGood_l2 fu x1 d16 k70 y68 = some r) fu ?_ ?_ ?_
 exact ⟨M13, (0 : Int), (Mm.ext.refl _ _ _), hS, hT14_3, rfl, rfl, hz⟩
 rintro T' w' ⟨_, _, _, _, _, _, _, hz⟩
 rw [nodeGood_l2] at hz
 cases hz
 intro k70
 rintro T67 w65 ⟨M66, y68, hx72, hS, hT67_3, hT67_41, hT67_42, hz⟩
 replace hcx1 := Rep.mono hx72.1 hcx1
 replace hb15 := Rep.mono hx72.1 hb15
 replace ha64 := Rep.mono hx72.1 ha64
 replace hE := Mm.ext.trans hE hx72
 replace hF20 := Mm.ext.trans hF20 hx72
 have hF71 := hx72
 rw [nodeGood_l2] at hz
 obtain ⟨rec69, hrec69⟩ : ∃ f, f = nodeGood_l2 fu x1 d16 k70 := ⟨_, rfl⟩
 rw [← hrec69] at hz
 refine W_seq <|W_reg <|WL_y (Y_lss hT67_42 rfl) ?_
 refine WL_nil (nm_then ?_)
 refine W_seq ?_
 refine W_cond rfl (fun hc73 => ?_) (fun hc73 => ?_)
 replace hz := bif_ok_t hz hc73
 refine W_skip (nm_then ?_)
 refine W_seqJ (fun T' w' => ∃ M75, Mm.ext w.heap.size noX M66 M75 ∧ St w noX M75 [.box b6 cs15 61, .box b3 cx1 48] w' ∧ T' 3 = .pointer (some ⟨b6, 0, none⟩) ∧ T' 41 = .agg (sl cx1 (0 + 0) 192).toArray ∧ T' 42 = .int .i64 y68 ∧ nodeGood_j4 y68 rec69 = some r) ?_ ?_
 have hF78 := Mm.ext.refl w.heap.size noX M66
 refine W_block <|W_seq <|W_reg <|WL_y (Y_move (.int .i64 y68) hT67_42) ?_
 obtain ⟨x79, hx80, hz⟩ := bind_ok hz
 obtain ⟨hx80a, hx80b, hx80⟩ := repV_at ha64 hx80
 replace hx80 : rep _ (sl (sl cx1 (0 + 0) 192) (Int.toNat y68 * 6) 6) x79 := hx80
 refine WL_y (Y_ixVn iv45 hT67_41 hT67_42 hx80a hx80b) ?_
 refine WL_c (O_alloc tz44 hS ?_)
 intro b82 w81 hb82 hS
 have zb82 : rep M66 (Zr.zc GEntry) (Zr.zd : GEntry) := Zr.zr
 refine WL_y (Y_assign (.int .i64 y68) rfl) ?_
 obtain ⟨d85, hd84, hz⟩ := bind_ok hz
 refine WL_c (O_sx 0 6 hS rfl zb82 rfl rfl hx80 rfl rfl (Lf (rr zb82) hx80) hd84 ?_)
 intro cs84 w83 hb84 ha84 hs84 hS
 refine WL_nil (nm_then ?_)
 refine W_seqJ (fun T' w' => ∃ M87, Mm.ext w.heap.size noX M66 M87 ∧ St w noX M87 [.box b82 cs84 44, .box b6 cs15 61, .box b3 cx1 48] w' ∧ T' 3 = .pointer (some ⟨b6, 0, none⟩) ∧ T' 6 = .int .i64 y68 ∧ T' 7 = .pointer (some ⟨b82, 0, none⟩) ∧ T' 41 = .agg (sl cx1 (0 + 0) 192).toArray ∧ T' 42 = .int .i64 y68 ∧ nodeGood_j5 fu y68 rec69 d85 = some r) ?_ ?_
 have hF200 := Mm.ext.refl w.heap.size noX M66
 refine W_seqJ (fun T' w' => ∃ M202 c204, Mm.ext w.heap.size noX M66 M202 ∧ St w noX M202 [.box b82 cs84 44, .box b6 cs15 61, .box b3 cx1 48] w' ∧ T' 3 = .pointer (some ⟨b6, 0, none⟩) ∧ T' 6 = .int .i64 y68 ∧ T' 7 = .pointer (some ⟨b82, 0, none⟩) ∧ T' 41 = .agg (sl cx1 (0 + 0) 192).toArray ∧ T' 42 = .int .i64 y68 ∧ T' 62 = .bool c204 ∧ nodeGood_j10 fu y68 rec69 d85 c204 = some r) ?_ ?_
 have hF207 := Mm.ext.refl w.heap.size noX M66
 refine W_drawB (Rd M66 [.box b82 cs84 44, .box b6 cs15 61]) (inL []) mixed hS fun w208 hS => ?_
 have hG209 := Mm.ext.refl w.heap.size noX M66
 have hR210 : Rd M66 [.box b82 cs84 44, .box b6 cs15 61] w208 := Rd.of hS hG209 (by simp)
 refine WB_y (i := 0) rfl (by kernel_rfl) rfl (Y_fa fa44_0 rfl) (fun _ => hR210) <|WB_ld (i := 1) rfl (by kernel_rfl) rfl (inL_lt rfl) (by kernel_rfl) (by kernel_rfl) (Y_ld1 (.int .i64 d85.state) ts3 rfl (bvR 0 rfl) (GEntry.p0 (rr hb84))) hR210 <|WB_y (i := 2) rfl (by kernel_rfl) rfl (Y_lss rfl rfl) (fun _ => hR210) <|WB_y (i := 3) rfl (by kernel_rfl) rfl (Y_move (.bool (decide (d85.state < 0))) rfl) (fun _ => hR210) ?_
 rcases ic hz with ⟨hc211, hz⟩ | ⟨hc211, hz⟩ <;> rw [hc211]
 refine WB_s (i := 4) (j := 3) rfl (by kernel_rfl) rfl rfl rfl rfl (fun _ => hR210) <|WB_s (i := 5) (j := 3) rfl (by kernel_rfl) rfl rfl rfl rfl (fun _ => hR210) <|WB_s (i := 6) (j := 3) rfl (by kernel_rfl) rfl rfl rfl rfl (fun _ => hR210) <|WB_y (i := 7) rfl (by kernel_rfl) rfl (Y_pick_t (.bool true) rfl rfl) (fun _ => hR210) <|WB_y (i := 8) rfl (by kernel_rfl) rfl (Y_move (.bool true) rfl) (fun _ => hR210) <|WB_s (i := 9) (j := 8) rfl (by kernel_rfl) rfl rfl rfl rfl (fun _ => hR210) <|WB_s (i := 10) (j := 8) rfl (by kernel_rfl) rfl rfl rfl rfl (fun _ => hR210) <|WB_s (i := 11) (j := 8) rfl (by kernel_rfl) rfl rfl rfl rfl (fun _ => hR210) <|WB_s (i := 12) (j := 8) rfl (by kernel_rfl) rfl rfl rfl rfl (fun _ => hR210) <|WB_s (i := 13) (j := 8) rfl (by kernel_rfl) rfl rfl rfl rfl (fun _ => hR210) <|WB_s (i := 14) (j := 8) rfl (by kernel_rfl) rfl rfl rfl rfl (fun _ => hR210) <|WB_s (i := 15) (j := 8) rfl (by kernel_rfl) rfl rfl rfl rfl (fun _ => hR210) <|WB_y (i := 16) rfl (by kernel_rfl) rfl (Y_pick_t (.bool true) rfl rfl) (fun _ => hR210) ?_
 refine WB_done (by kernel_rfl) (nm_then ?_)
 exact ⟨M66, true, hF207, hS, hT67_3, rfl, rfl, hT67_41, hT67_42, rfl, hz⟩
 refine WB_gy (i := 4) rfl (by kernel_rfl) rfl rfl rfl (Y_fa fa44_0 rfl) (fun _ => hR210) <|WB_gld (i := 5) rfl (by kernel_rfl) rfl (inL_lt rfl) (by kernel_rfl) (by kernel_rfl) rfl rfl (Y_ld1 (.int .i64 d85.state) ts3 rfl (bvR 0 rfl) (GEntry.p0 (rr hb84))) hR210 <|WB_gy (i := 6) rfl (by kernel_rfl) rfl rfl rfl (Y_gtr rfl rfl) (fun _ => hR210) <|WB_y (i := 7) rfl (by kernel_rfl) rfl (Y_pick_f (.bool (decide (d85.state > 3))) rfl rfl) (fun _ => hR210) <|WB_y (i := 8) rfl (by kernel_rfl) rfl (Y_move (.bool (decide (d85.state > 3))) rfl) (fun _ => hR210) ?_
 rcases ic hz with ⟨hc212, hz⟩ | ⟨hc212, hz⟩ <;> rw [hc212]
 refine WB_s (i := 9) (j := 8) rfl (by kernel_rfl) rfl rfl rfl rfl (fun _ => hR210) <|WB_s (i := 10) (j := 8) rfl (by kernel_rfl) rfl rfl rfl rfl (fun _ => hR210) <|WB_s (i := 11) (j := 8) rfl (by kernel_rfl) rfl rfl rfl rfl (fun _ => hR210) <|WB_s (i := 12) (j := 8) rfl (by kernel_rfl) rfl rfl rfl rfl (fun _ => hR210) <|WB_s (i := 13) (j := 8) rfl (by kernel_rfl) rfl rfl rfl rfl (fun _ => hR210) <|WB_s (i := 14) (j := 8) rfl (by kernel_rfl) rfl rfl rfl rfl (fun _ => hR210) <|WB_s (i := 15) (j := 8) rfl (by kernel_rfl) rfl rfl rfl rfl (fun _ => hR210) <|WB_y (i := 16) rfl (by kernel_rfl) rfl (Y_pick_t (.bool true) rfl rfl) (fun _ => hR210) ?_
 refine WB_done (by kernel_rfl) (nm_then ?_)
 exact ⟨M66, true, hF207, hS, hT67_3, rfl, rfl, hT67_41, hT67_42, rfl, hz⟩
 refine WB_gy (i := 9) rfl (by kernel_rfl) rfl rfl rfl (Y_fa fa44_0 rfl) (fun _ => hR210) <|WB_gld (i := 10) rfl (by kernel_rfl) rfl (inL_lt rfl) (by kernel_rfl) (by kernel_rfl) rfl rfl (Y_ld1 (.int .i64 d85.state) ts3 rfl (bvR 0 rfl) (GEntry.p0 (rr hb84))) hR210 <|WB_gy (i := 11) rfl (by kernel_rfl) rfl rfl rfl (Y_eql rfl rfl) (fun _ => hR210) <|WB_gy (i := 12) rfl (by kernel_rfl) rfl rfl rfl (Y_move (.int .i64 y68) rfl) (fun _ => hR210) ?_
 obtain ⟨u213, hx214, hz⟩ := bind_ok hz
 obtain ⟨hx214a, hx214b⟩ := inR_some hx214
 refine WB_gy (i := 13) rfl (by kernel_rfl) rfl rfl rfl (Y_ixA ia61 hT67_3 rfl hx214a hx214b) (fun _ => hR210) ?_
 obtain ⟨x215, hx216, hz⟩ := bind_ok hz
 refine WB_gld (i := 14) rfl (by kernel_rfl) rfl (inL_lt rfl) (by kernel_rfl) (by kernel_rfl) rfl rfl (Y_ld1 (.bool x215) ts4 rfl (bvR 1 rfl) (vp (k := 1) rfl rfl (rr hb15) hx216)) hR210 <|WB_gy (i := 15) rfl (by kernel_rfl) rfl rfl rfl (Y_neB rfl rfl Try.underlying4) (fun _ => hR210) <|WB_y (i := 16) rfl (by kernel_rfl) rfl (Y_pick_f (.bool (!((d85.state == 3) == x215))) rfl rfl) (fun _ => hR210) ?_
 refine WB_done (by kernel_rfl) (nm_then ?_)
 exact ⟨M66, (!((d85.state == 3) == x215)), hF207, hS, hT67_3, rfl, rfl, hT67_41, hT67_42, rfl, hz⟩
 rintro T203 w201 ⟨M202, c204, hx205, hS, hT203_3, hT203_6, hT203_7, hT203_41, hT203_42, hT203_62, hz⟩
 replace hcx1 := Rep.mono hx205.1 hcx1
 replace hb15 := Rep.mono hx205.1 hb15
 replace ha64 := Rep.mono hx205.1 ha64
 replace hb84 := Rep.mono hx205.1 hb84
 replace hE := Mm.ext.trans hE hx205
 replace hF20 := Mm.ext.trans hF20 hx205
 replace hF71 := Mm.ext.trans hF71 hx205
 replace hF78 := Mm.ext.trans hF78 hx205
 replace hF200 := Mm.ext.trans hF200 hx205
 rw [nodeGood_j10] at hz
 refine W_cond hT203_62 (fun hc206 => ?_) (fun hc206 => ?_)
 replace hz := bif_ok_t hz hc206
 refine W_seq <|W_reg <|WL_y (Y_assign (.bool false) rfl) ?_
 refine WL_nil (nm_then ?_)
 cases hz
 exact W_ret (rt_then (rt_blk (rt_then (rt_then (rt_blk (rt_then (R_t1 rfl rfl ⟨rfl, (St.dropB (St.dropB (St.dropB hS hb82) hb6) hb3).kept⟩)))))))
 replace hz := bif_ok_f hz hc206
 refine W_skip (nm_then ?_)
 exact ⟨M202, hF200, hS, hT203_3, hT203_6, hT203_7, hT203_41, hT203_42, hz⟩
 rintro T88 w86 ⟨M87, hx89, hS, hT88_3, hT88_6, hT88_7, hT88_41, hT88_42, hz⟩
 replace hcx1 := Rep.mono hx89.1 hcx1
 replace hb15 := Rep.mono hx89.1 hb15
 replace ha64 := Rep.mono hx89.1 ha64
 replace hb84 := Rep.mono hx89.1 hb84
 replace hE := Mm.ext.trans hE hx89
 replace hF20 := Mm.ext.trans hF20 hx89
 replace hF71 := Mm.ext.trans hF71 hx89
 replace hF78 := Mm.ext.trans hF78 hx89
 rw [nodeGood_j5] at hz
 refine W_seq <|W_seq <|W_reg <|WL_y (Y_fa fa44_0 hT88_7) <|WL_y (Y_ld1 (.int .i64 d85.state) ts3 rfl (hS.bvB 0 rfl) (GEntry.p0 (rr hb84))) <|WL_y (Y_eql rfl rfl) ?_
 refine WL_nil (nm_then ?_)
 refine W_cond rfl (fun hc90 => ?_) (fun hc90 => ?_)
 replace hz := bif_ok_t hz hc90
 refine W_seq <|W_seq <|W_reg <|WL_y (Y_fa fa44_1 hT88_7) ?_
 obtain ⟨v91, ev91, hv91⟩ := (GEntry.p1 (rr hb84))
 refine WL_y (Y_ld1 v91 ts22 rfl (hS.bvB 0 rfl) ev91) ?_
 obtain ⟨a92, c92, hv92, _⟩ := repL_shape hv91
 refine WL_y (Y_lenL Try.underlying22 (tr2 hv92 rfl)) <|WL_y (Y_fa fa44_2 hT88_7) ?_
 obtain ⟨v93, ev93, hv93⟩ := (GEntry.p2 (rr hb84))
 refine WL_y (Y_ld1 v93 ts27 rfl (hS.bvB 0 rfl) ev93) ?_
 obtain ⟨a94, c94, hv94, _⟩ := repL_shape hv93
 refine WL_y (Y_lenL Try.underlying27 (tr2 hv94 rfl)) <|WL_y (Y_add rfl rfl) <|WL_y (Y_fa fa44_3 hT88_7) ?_
 obtain ⟨v95, ev95, hv95⟩ := (GEntry.p3 (rr hb84))
 refine WL_y (Y_ld1 v95 ts27 rfl (hS.bvB 0 rfl) ev95) ?_
 obtain ⟨a96, c96, hv96, _⟩ := repL_shape hv95
 refine WL_y (Y_lenL Try.underlying27 (tr2 hv96 rfl)) <|WL_y (Y_add rfl rfl) <|WL_y (Y_fa fa44_4 hT88_7) ?_
 obtain ⟨v97, ev97, hv97⟩ := (GEntry.p4 (rr hb84))
 refine WL_y (Y_ld1 v97 ts27 rfl (hS.bvB 0 rfl) ev97) ?_
 obtain ⟨a98, c98, hv98, _⟩ := repL_shape hv97
 refine WL_y (Y_lenL Try.underlying27 (tr2 hv98 rfl)) <|WL_y (Y_add rfl rfl) <|WL_y (Y_fa fa44_5 hT88_7) ?_
 obtain ⟨v99, ev99, hv99⟩ := (GEntry.p5 (rr hb84))
 refine WL_y (Y_ld1 v99 ts27 rfl (hS.bvB 0 rfl) ev99) ?_
 obtain ⟨a100, c100, hv100, _⟩ := repL_shape hv99
 refine WL_y (Y_lenL Try.underlying27 (tr2 hv100 rfl)) <|WL_y (Y_add rfl rfl) <|WL_y (Y_gtr rfl rfl) ?_
 refine WL_nil (nm_then ?_)
 refine W_cond rfl (fun hc101 => ?_) (fun hc101 => ?_)
 replace hz := bif_ok_t hz hc101
 refine W_seq <|W_reg <|WL_y (Y_assign (.bool false) rfl) ?_
 refine WL_nil (nm_then ?_)
 cases hz
 exact W_ret (rt_then (rt_then (rt_blk (rt_then (rt_then (rt_blk (rt_then (R_t1 rfl rfl ⟨rfl, (St.dropB (St.dropB (St.dropB hS hb82) hb6) hb3).kept⟩))))))))
 replace hz := bif_ok_f hz hc101
 refine W_skip (nm_then ?_)
 refine W_exit <|ex_then <|ex_hit ?_
 refine (nm_then ?_)
 exact ⟨M87, hF78, (St.dropB hS hb82), hT88_3, hT88_41, hT88_42, hz⟩
 replace hz := bif_ok_f hz hc90
 refine W_skip (nm_then ?_)
 refine W_seqJ (fun T' w' => ∃ M103, Mm.ext w.heap.size noX M87 M103 ∧ St w noX M103 [.box b82 cs84 44, .box b6 cs15 61, .box b3 cx1 48] w' ∧ T' 3 = .pointer (some ⟨b6, 0, none⟩) ∧ T' 7 = .pointer (some ⟨b82, 0, none⟩) ∧ T' 41 = .agg (sl cx1 (0 + 0) 192).toArray ∧ T' 42 = .int .i64 y68 ∧ nodeGood_j6 fu y68 rec69 d85 = some r) ?_ ?_
 have hF139 := Mm.ext.refl w.heap.size noX M87
 refine W_seqJ (fun T' w' => ∃ M141 c143, Mm.ext w.heap.size noX M87 M141 ∧ St w noX M141 [.box b82 cs84 44, .box b6 cs15 61, .box b3 cx1 48] w' ∧ T' 3 = .pointer (some ⟨b6, 0, none⟩) ∧ T' 7 = .pointer (some ⟨b82, 0, none⟩) ∧ T' 41 = .agg (sl cx1 (0 + 0) 192).toArray ∧ T' 42 = .int .i64 y68 ∧ T' 144 = .bool c143 ∧ nodeGood_j9 fu y68 rec69 d85 c143 = some r) ?_ ?_
 have hF146 := Mm.ext.refl w.heap.size noX M87
 refine W_reg <|WL_y (Y_fa fa44_1 hT88_7) ?_
 obtain ⟨v147, ev147, hv147⟩ := (GEntry.p1 (rr hb84))
 refine WL_y (Y_ld1 v147 ts22 rfl (hS.bvB 0 rfl) ev147) ?_
 obtain ⟨r150, hr149, hz⟩ := bind_ok hz
 replace hr149 := Option.some.inj hr149
 refine WL_c (O_val (vs := [v147]) (v := .bool r150) cb38 (args1 rfl) hS (hr149 ▸ (c_goodOps hS.agree hv147)) ?_)
 intro w148 hS
 refine WL_y (Y_not rfl) <|WL_y (Y_move (.bool (!r150)) rfl) ?_
 rcases ic hz with ⟨hc151, hz⟩ | ⟨hc151, hz⟩ <;> rw [hc151]
 refine WL_d 54 rfl ?_
 refine WL_nil (nm_then ?_)
 exact ⟨M87, true, hF146, hS, hT88_3, hT88_7, hT88_41, hT88_42, rfl, hz⟩
 refine WL_gy rfl rfl (Y_fa fa44_2 hT88_7) ?_
 obtain ⟨v152, ev152, hv152⟩ := (GEntry.p2 (rr hb84))
 refine WL_gy rfl rfl (Y_ld1 v152 ts27 rfl (hS.bvB 0 rfl) ev152) ?_
 obtain ⟨r155, hr154, hz⟩ := bind_ok hz
 replace hr154 := Option.some.inj hr154
 refine WL_g rfl rfl (O_val (vs := [v152]) (v := .bool r155) cb62 (args1 rfl) hS (hr154 ▸ (c_rising hS.agree hv152)) ?_)
 intro w153 hS
 refine WL_gy rfl rfl (Y_not rfl) <|WL_d 2 rfl ?_
 rcases ic hz with ⟨hc156, hz⟩ | ⟨hc156, hz⟩ <;> rw [hc156]
 refine WL_d 48 rfl ?_
 refine WL_nil (nm_then ?_)
 exact ⟨M87, true, hF146, hS, hT88_3, hT88_7, hT88_41, hT88_42, rfl, hz⟩
 refine WL_gy rfl rfl (Y_fa fa44_3 hT88_7) ?_
 obtain ⟨v157, ev157, hv157⟩ := (GEntry.p3 (rr hb84))
 refine WL_gy rfl rfl (Y_ld1 v157 ts27 rfl (hS.bvB 0 rfl) ev157) ?_
 obtain ⟨r160, hr159, hz⟩ := bind_ok hz
 replace hr159 := Option.some.inj hr159
 refine WL_g rfl rfl (O_val (vs := [v157]) (v := .bool r160) cb62 (args1 rfl) hS (hr159 ▸ (c_rising hS.agree hv157)) ?_)
 intro w158 hS
 refine WL_gy rfl rfl (Y_not rfl) <|WL_d 2 rfl ?_
 rcases ic hz with ⟨hc161, hz⟩ | ⟨hc161, hz⟩ <;> rw [hc161]
 refine WL_d 42 rfl ?_
 refine WL_nil (nm_then ?_)
 exact ⟨M87, true, hF146, hS, hT88_3, hT88_7, hT88_41, hT88_42, rfl, hz⟩
 refine WL_gy rfl rfl (Y_fa fa44_2 hT88_7) ?_
 obtain ⟨v162, ev162, hv162⟩ := (GEntry.p2 (rr hb84))
 refine WL_gy rfl rfl (Y_ld1 v162 ts27 rfl (hS.bvB 0 rfl) ev162) <|WL_gy rfl rfl (Y_move (.int .i64 y68) hT88_6) ?_
 obtain ⟨r165, hr164, hz⟩ := bind_ok hz
 replace hr164 := Option.some.inj hr164
 refine WL_g rfl rfl (O_val (vs := [v162, .int .i64 y68]) (v := .bool r165) cb42 (args2 rfl rfl) hS (hr164 ▸ (c_contains hS.agree hv162)) ?_)
 intro w163 hS
 refine WL_d 2 rfl ?_
 rcases ic hz with ⟨hc166, hz⟩ | ⟨hc166, hz⟩ <;> rw [hc166]
 refine WL_d 36 rfl ?_
 refine WL_nil (nm_then ?_)
 exact ⟨M87, true, hF146, hS, hT88_3, hT88_7, hT88_41, hT88_42, rfl, hz⟩
 refine WL_gy rfl rfl (Y_fa fa44_3 hT88_7) ?_
 obtain ⟨v167, ev167, hv167⟩ := (GEntry.p3 (rr hb84))
 refine WL_gy rfl rfl (Y_ld1 v167 ts27 rfl (hS.bvB 0 rfl) ev167) <|WL_gy rfl rfl (Y_move (.int .i64 y68) hT88_6) ?_
 obtain ⟨r170, hr169, hz⟩ := bind_ok hz
 replace hr169 := Option.some.inj hr169
 refine WL_g rfl rfl (O_val (vs := [v167, .int .i64 y68]) (v := .bool r170) cb42 (args2 rfl rfl) hS (hr169 ▸ (c_contains hS.agree hv167)) ?_)
 intro w168 hS
 refine WL_d 2 rfl ?_
 rcases ic hz with ⟨hc171, hz⟩ | ⟨hc171, hz⟩ <;> rw [hc171]
 refine WL_d 30 rfl ?_
 refine WL_nil (nm_then ?_)
 exact ⟨M87, true, hF146, hS, hT88_3, hT88_7, hT88_41, hT88_42, rfl, hz⟩
 refine WL_gy rfl rfl (Y_fa fa44_0 hT88_7) <|WL_gy rfl rfl (Y_ld1 (.int .i64 d85.state) ts3 rfl (hS.bvB 0 rfl) (GEntry.p0 (rr hb84))) <|WL_gy rfl rfl (Y_eql rfl rfl) <|WL_gy rfl rfl (Y_move (.bool (d85.state == 1)) rfl) ?_
 rcases ic hz with ⟨hc172, hz⟩ | ⟨hc172, hz⟩ <;> rw [hc172]
 refine WL_gy rfl rfl (Y_fa fa44_3 hT88_7) ?_
 obtain ⟨v173, ev173, hv173⟩ := (GEntry.p3 (rr hb84))
 refine WL_gy rfl rfl (Y_ld1 v173 ts27 rfl (hS.bvB 0 rfl) ev173) ?_
 obtain ⟨a174, c174, hv174, _⟩ := repL_shape hv173
 refine WL_gy rfl rfl (Y_lenL Try.underlying27 (tr2 hv174 rfl)) <|WL_gy rfl rfl (Y_gtr rfl rfl) <|WL_d 3 rfl ?_
 rcases ic hz with ⟨hc175, hz⟩ | ⟨hc175, hz⟩ <;> rw [hc175]
 refine WL_d 19 rfl ?_
 refine WL_nil (nm_then ?_)
 exact ⟨M87, true, hF146, hS, hT88_3, hT88_7, hT88_41, hT88_42, rfl, hz⟩
 refine WL_gy rfl rfl (Y_fa fa44_0 hT88_7) <|WL_gy rfl rfl (Y_ld1 (.int .i64 d85.state) ts3 rfl (hS.bvB 0 rfl) (GEntry.p0 (rr hb84))) <|WL_gy rfl rfl (Y_neq rfl rfl) <|WL_gy rfl rfl (Y_move (.bool (d85.state != 3)) rfl) ?_
 rcases ic hz with ⟨hc176, hz⟩ | ⟨hc176, hz⟩ <;> rw [hc176]
 refine WL_gy rfl rfl (Y_fa fa44_4 hT88_7) ?_
 obtain ⟨v177, ev177, hv177⟩ := (GEntry.p4 (rr hb84))
 refine WL_gy rfl rfl (Y_ld1 v177 ts27 rfl (hS.bvB 0 rfl) ev177) ?_
 obtain ⟨a178, c178, hv178, _⟩ := repL_shape hv177
 refine WL_gy rfl rfl (Y_lenL Try.underlying27 (tr2 hv178 rfl)) <|WL_gy rfl rfl (Y_gtr rfl rfl) <|WL_d 3 rfl ?_
 rcases ic hz with ⟨hc179, hz⟩ | ⟨hc179, hz⟩ <;> rw [hc179]
 refine WL_d 8 rfl ?_
 refine WL_nil (nm_then ?_)
 exact ⟨M87, true, hF146, hS, hT88_3, hT88_7, hT88_41, hT88_42, rfl, hz⟩
 refine WL_gy rfl rfl (Y_fa fa44_4 hT88_7) ?_
 obtain ⟨v180, ev180, hv180⟩ := (GEntry.p4 (rr hb84))
 refine WL_gy rfl rfl (Y_ld1 v180 ts27 rfl (hS.bvB 0 rfl) ev180) ?_
 obtain ⟨a181, c181, hv181, _⟩ := repL_shape hv180
 refine WL_gy rfl rfl (Y_lenL Try.underlying27 (tr2 hv181 rfl)) <|WL_gy rfl rfl (Y_fa fa44_5 hT88_7) ?_
 obtain ⟨v182, ev182, hv182⟩ := (GEntry.p5 (rr hb84))
 refine WL_gy rfl rfl (Y_ld1 v182 ts27 rfl (hS.bvB 0 rfl) ev182) ?_
 obtain ⟨a183, c183, hv183, _⟩ := repL_shape hv182
 refine WL_gy rfl rfl (Y_lenL Try.underlying27 (tr2 hv183 rfl)) <|WL_gy rfl rfl (Y_neq rfl rfl) <|WL_y (Y_pick_f (.bool ((d85.at_.length : Int) != (d85.values.length : Int))) rfl rfl) ?_
 refine WL_nil (nm_then ?_)
 exact ⟨M87, ((d85.at_.length : Int) != (d85.values.length : Int)), hF146, hS, hT88_3, hT88_7, hT88_41, hT88_42, rfl, hz⟩
 refine WL_d 7 rfl <|WL_gy rfl rfl (Y_fa fa44_4 hT88_7) ?_
 obtain ⟨v184, ev184, hv184⟩ := (GEntry.p4 (rr hb84))
 refine WL_gy rfl rfl (Y_ld1 v184 ts27 rfl (hS.bvB 0 rfl) ev184) ?_
 obtain ⟨a185, c185, hv185, _⟩ := repL_shape hv184
 refine WL_gy rfl rfl (Y_lenL Try.underlying27 (tr2 hv185 rfl)) <|WL_gy rfl rfl (Y_fa fa44_5 hT88_7) ?_
 obtain ⟨v186, ev186, hv186⟩ := (GEntry.p5 (rr hb84))
 refine WL_gy rfl rfl (Y_ld1 v186 ts27 rfl (hS.bvB 0 rfl) ev186) ?_
 obtain ⟨a187, c187, hv187, _⟩ := repL_shape hv186
 refine WL_gy rfl rfl (Y_lenL Try.underlying27 (tr2 hv187 rfl)) <|WL_gy rfl rfl (Y_neq rfl rfl) <|WL_y (Y_pick_f (.bool ((d85.at_.length : Int) != (d85.values.length : Int))) rfl rfl) ?_
 refine WL_nil (nm_then ?_)
 exact ⟨M87, ((d85.at_.length : Int) != (d85.values.length : Int)), hF146, hS, hT88_3, hT88_7, hT88_41, hT88_42, rfl, hz⟩
 refine WL_d 7 rfl <|WL_gy rfl rfl (Y_fa fa44_0 hT88_7) <|WL_gy rfl rfl (Y_ld1 (.int .i64 d85.state) ts3 rfl (hS.bvB 0 rfl) (GEntry.p0 (rr hb84))) <|WL_gy rfl rfl (Y_neq rfl rfl) <|WL_gy rfl rfl (Y_move (.bool (d85.state != 3)) rfl) ?_
 rcases ic hz with ⟨hc188, hz⟩ | ⟨hc188, hz⟩ <;> rw [hc188]
 refine WL_gy rfl rfl (Y_fa fa44_4 hT88_7) ?_
 obtain ⟨v189, ev189, hv189⟩ := (GEntry.p4 (rr hb84))
 refine WL_gy rfl rfl (Y_ld1 v189 ts27 rfl (hS.bvB 0 rfl) ev189) ?_
 obtain ⟨a190, c190, hv190, _⟩ := repL_shape hv189
 refine WL_gy rfl rfl (Y_lenL Try.underlying27 (tr2 hv190 rfl)) <|WL_gy rfl rfl (Y_gtr rfl rfl) <|WL_d 3 rfl ?_
 rcases ic hz with ⟨hc191, hz⟩ | ⟨hc191, hz⟩ <;> rw [hc191]
 refine WL_d 8 rfl ?_
 refine WL_nil (nm_then ?_)
 exact ⟨M87, true, hF146, hS, hT88_3, hT88_7, hT88_41, hT88_42, rfl, hz⟩
 refine WL_gy rfl rfl (Y_fa fa44_4 hT88_7) ?_
 obtain ⟨v192, ev192, hv192⟩ := (GEntry.p4 (rr hb84))
 refine WL_gy rfl rfl (Y_ld1 v192 ts27 rfl (hS.bvB 0 rfl) ev192) ?_
 obtain ⟨a193, c193, hv193, _⟩ := repL_shape hv192
 refine WL_gy rfl rfl (Y_lenL Try.underlying27 (tr2 hv193 rfl)) <|WL_gy rfl rfl (Y_fa fa44_5 hT88_7) ?_
 obtain ⟨v194, ev194, hv194⟩ := (GEntry.p5 (rr hb84))
 refine WL_gy rfl rfl (Y_ld1 v194 ts27 rfl (hS.bvB 0 rfl) ev194) ?_
 obtain ⟨a195, c195, hv195, _⟩ := repL_shape hv194
 refine WL_gy rfl rfl (Y_lenL Try.underlying27 (tr2 hv195 rfl)) <|WL_gy rfl rfl (Y_neq rfl rfl) <|WL_y (Y_pick_f (.bool ((d85.at_.length : Int) != (d85.values.length : Int))) rfl rfl) ?_
 refine WL_nil (nm_then ?_)
 exact ⟨M87, ((d85.at_.length : Int) != (d85.values.length : Int)), hF146, hS, hT88_3, hT88_7, hT88_41, hT88_42, rfl, hz⟩
 refine WL_d 7 rfl <|WL_gy rfl rfl (Y_fa fa44_4 hT88_7) ?_
 obtain ⟨v196, ev196, hv196⟩ := (GEntry.p4 (rr hb84))
 refine WL_gy rfl rfl (Y_ld1 v196 ts27 rfl (hS.bvB 0 rfl) ev196) ?_
 obtain ⟨a197, c197, hv197, _⟩ := repL_shape hv196
 refine WL_gy rfl rfl (Y_lenL Try.underlying27 (tr2 hv197 rfl)) <|WL_gy rfl rfl (Y_fa fa44_5 hT88_7) ?_
 obtain ⟨v198, ev198, hv198⟩ := (GEntry.p5 (rr hb84))
 refine WL_gy rfl rfl (Y_ld1 v198 ts27 rfl (hS.bvB 0 rfl) ev198) ?_
 obtain ⟨a199, c199, hv199, _⟩ := repL_shape hv198
 refine WL_gy rfl rfl (Y_lenL Try.underlying27 (tr2 hv199 rfl)) <|WL_gy rfl rfl (Y_neq rfl rfl) <|WL_y (Y_pick_f (.bool ((d85.at_.length : Int) != (d85.values.length : Int))) rfl rfl) ?_
 refine WL_nil (nm_then ?_)
 exact ⟨M87, ((d85.at_.length : Int) != (d85.values.length : Int)), hF146, hS, hT88_3, hT88_7, hT88_41, hT88_42, rfl, hz⟩
 rintro T142 w140 ⟨M141, c143, hx144, hS, hT142_3, hT142_7, hT142_41, hT142_42, hT142_144, hz⟩
 replace hcx1 := Rep.mono hx144.1 hcx1
 replace hb15 := Rep.mono hx144.1 hb15
 replace ha64 := Rep.mono hx144.1 ha64
 replace hb84 := Rep.mono hx144.1 hb84
 replace hE := Mm.ext.trans hE hx144
 replace hF20 := Mm.ext.trans hF20 hx144
 replace hF71 := Mm.ext.trans hF71 hx144
 replace hF78 := Mm.ext.trans hF78 hx144
 replace hF139 := Mm.ext.trans hF139 hx144
 rw [nodeGood_j9] at hz
 refine W_cond hT142_144 (fun hc145 => ?_) (fun hc145 => ?_)
 replace hz := bif_ok_t hz hc145
 refine W_seq <|W_reg <|WL_y (Y_assign (.bool false) rfl) ?_
 refine WL_nil (nm_then ?_)
 cases hz
 exact W_ret (rt_then (rt_blk (rt_then (rt_then (rt_blk (rt_then (R_t1 rfl rfl ⟨rfl, (St.dropB (St.dropB (St.dropB hS hb82) hb6) hb3).kept⟩)))))))
 replace hz := bif_ok_f hz hc145
 refine W_skip (nm_then ?_)
 exact ⟨M141, hF139, hS, hT142_3, hT142_7, hT142_41, hT142_42, hz⟩
 rintro T104 w102 ⟨M103, hx105, hS, hT104_3, hT104_7, hT104_41, hT104_42, hz⟩
 replace hcx1 := Rep.mono hx105.1 hcx1
 replace hb15 := Rep.mono hx105.1 hb15
 replace ha64 := Rep.mono hx105.1 ha64
 replace hb84 := Rep.mono hx105.1 hb84
 replace hE := Mm.ext.trans hE hx105
 replace hF20 := Mm.ext.trans hF20 hx105
 replace hF71 := Mm.ext.trans hF71 hx105
 replace hF78 := Mm.ext.trans hF78 hx105
 rw [nodeGood_j6] at hz
 refine W_seq <|W_reg <|WL_y (Y_fa fa44_4 hT104_7) ?_
 obtain ⟨v106, ev106, hv106⟩ := (GEntry.p4 (rr hb84))
 refine WL_y (Y_ld1 v106 ts27 rfl (hS.bvB 0 rfl) ev106) ?_
 obtain ⟨a107, c107, hv107, _⟩ := repL_shape hv106
 refine WL_y (Y_lenL Try.underlying27 (tr2 hv107 rfl)) <|WL_y (Y_move (.int .i64 0) rfl) ?_
 refine WL_nil (nm_then ?_)
 refine W_block ?_
 refine W_loop (fun k113 T' w' => ∃ M109 y111, Mm.ext w.heap.size noX M103 M109 ∧ St w noX M109 [.box b82 cs84 44, .box b6 cs15 61, .box b3 cx1 48] w' ∧ T' 3 = .pointer (some ⟨b6, 0, none⟩) ∧ T' 7 = .pointer (some ⟨b82, 0, none⟩) ∧ T' 41 = .agg (sl cx1 (0 + 0) 192).toArray ∧ T' 42 = .int .i64 y68 ∧ T' 146 = v106 ∧ T' 147 = .int .i64 (d85.at_.length : Int) ∧ T' 148 = .int .i64 y111 ∧ nodeGood_l3 y68 rec69 d85 k113 y111 = some r) fu ?_ ?_ ?_
 exact ⟨M103, (0 : Int), (Mm.ext.refl _ _ _), hS, hT104_3, hT104_7, hT104_41, hT104_42, rfl, rfl, rfl, hz⟩
 rintro T' w' ⟨_, _, _, _, _, _, _, _, _, _, _, hz⟩
 rw [nodeGood_l3] at hz
 cases hz
 intro k113
 rintro T110 w108 ⟨M109, y111, hx115, hS, hT110_3, hT110_7, hT110_41, hT110_42, hT110_146, hT110_147, hT110_148, hz⟩
 replace hcx1 := Rep.mono hx115.1 hcx1
 replace hb15 := Rep.mono hx115.1 hb15
 replace ha64 := Rep.mono hx115.1 ha64
 replace hb84 := Rep.mono hx115.1 hb84
 replace hv106 := repL.mono hx115.1 hv106
 replace hE := Mm.ext.trans hE hx115
 replace hF20 := Mm.ext.trans hF20 hx115
 replace hF71 := Mm.ext.trans hF71 hx115
 replace hF78 := Mm.ext.trans hF78 hx115
 have hF114 := hx115
 rw [nodeGood_l3] at hz
 obtain ⟨rec112, hrec112⟩ : ∃ f, f = nodeGood_l3 y68 rec69 d85 k113 := ⟨_, rfl⟩
 rw [← hrec112] at hz
 refine W_seq <|W_reg <|WL_y (Y_lss hT110_148 hT110_147) ?_
 refine WL_nil (nm_then ?_)
 refine W_seq ?_
 refine W_cond rfl (fun hc116 => ?_) (fun hc116 => ?_)
 replace hz := bif_ok_t hz hc116
 refine W_skip (nm_then ?_)
 refine W_seqJ (fun T' w' => ∃ M118, Mm.ext w.heap.size noX M109 M118 ∧ St w noX M118 [.box b82 cs84 44, .box b6 cs15 61, .box b3 cx1 48] w' ∧ T' 3 = .pointer (some ⟨b6, 0, none⟩) ∧ T' 7 = .pointer (some ⟨b82, 0, none⟩) ∧ T' 41 = .agg (sl cx1 (0 + 0) 192).toArray ∧ T' 42 = .int .i64 y68 ∧ T' 146 = v106 ∧ T' 147 = .int .i64 (d85.at_.length : Int) ∧ T' 148 = .int .i64 y111 ∧ nodeGood_j7 y111 rec112 = some r) ?_ ?_
 have hF121 := Mm.ext.refl w.heap.size noX M109
 refine W_block <|W_seq <|W_reg <|WL_y (Y_move (.int .i64 y111) hT110_148) ?_
 obtain ⟨x123, hx122, hz⟩ := bind_ok hz
 obtain ⟨b122, o122, c122, p122, hv122, hi122, hj122, hM122, hr122⟩ := repL_at hv106 hx122
 replace hr122 : rep _ (sl p122 (o122 + Int.toNat y111 * 1) 1) x123 := hr122
 refine WL_y (Y_ixL il27 hT110_146 hv122 hT110_148 hi122 hj122) <|WL_y (Y_ld1 (.int .i64 x123) ts3 rfl (hS.bvM hM122) hr122) <|WL_d 2 rfl ?_
 refine WL_nil (nm_then ?_)
 refine W_seqJ (fun T' w' => ∃ M125 c127, Mm.ext w.heap.size noX M109 M125 ∧ St w noX M125 [.box b82 cs84 44, .box b6 cs15 61, .box b3 cx1 48] w' ∧ T' 3 = .pointer (some ⟨b6, 0, none⟩) ∧ T' 7 = .pointer (some ⟨b82, 0, none⟩) ∧ T' 41 = .agg (sl cx1 (0 + 0) 192).toArray ∧ T' 42 = .int .i64 y68 ∧ T' 146 = v106 ∧ T' 147 = .int .i64 (d85.at_.length : Int) ∧ T' 148 = .int .i64 y111 ∧ T' 175 = .bool c127 ∧ nodeGood_j8 y111 rec112 c127 = some r) ?_ ?_
 have hF130 := Mm.ext.refl w.heap.size noX M109
 refine W_reg <|WL_y (Y_move (.int .i64 x123) rfl) <|WL_y (Y_lss rfl rfl) <|WL_y (Y_move (.bool (decide (x123 < 0))) rfl) ?_
 rcases ic hz with ⟨hc131, hz⟩ | ⟨hc131, hz⟩ <;> rw [hc131]
 refine WL_d 20 rfl ?_
 refine WL_nil (nm_then ?_)
 exact ⟨M109, true, hF130, hS, hT110_3, hT110_7, hT110_41, hT110_42, hT110_146, hT110_147, hT110_148, rfl, hz⟩
 refine WL_gy rfl rfl (Y_move (.int .i64 x123) rfl) <|WL_gy rfl rfl (Y_fa fa44_1 hT110_7) ?_
 obtain ⟨v132, ev132, hv132⟩ := (GEntry.p1 (rr hb84))
 refine WL_gy rfl rfl (Y_ld1 v132 ts22 rfl (hS.bvB 0 rfl) ev132) ?_
 obtain ⟨a133, c133, hv133, _⟩ := repL_shape hv132
 refine WL_gy rfl rfl (Y_lenL Try.underlying22 (tr2 hv133 rfl)) <|WL_gy rfl rfl (Y_geq rfl rfl) <|WL_d 2 rfl ?_
 rcases ic hz with ⟨hc134, hz⟩ | ⟨hc134, hz⟩ <;> rw [hc134]
 refine WL_d 13 rfl ?_
 refine WL_nil (nm_then ?_)
 exact ⟨M109, true, hF130, hS, hT110_3, hT110_7, hT110_41, hT110_42, hT110_146, hT110_147, hT110_148, rfl, hz⟩
 refine WL_gy rfl rfl (Y_move (.int .i64 y111) rfl) <|WL_gy rfl rfl (Y_gtr rfl rfl) <|WL_gy rfl rfl (Y_move (.bool (decide (y111 > 0))) rfl) ?_
 rcases ic hz with ⟨hc135, hz⟩ | ⟨hc135, hz⟩ <;> rw [hc135]
 refine WL_gy rfl rfl (Y_fa fa44_4 hT110_7) ?_
 obtain ⟨v136, ev136, hv136⟩ := (GEntry.p4 (rr hb84))
 refine WL_gy rfl rfl (Y_ld1 v136 ts27 rfl (hS.bvB 0 rfl) ev136) <|WL_gy rfl rfl (Y_move (.int .i64 y111) rfl) <|WL_gy rfl rfl (Y_sub rfl rfl) ?_
 obtain ⟨x138, hx137, hz⟩ := bind_ok hz
 obtain ⟨b137, o137, c137, p137, hv137, hi137, hj137, hM137, hr137⟩ := repL_at hv136 hx137
 replace hr137 : rep _ (sl p137 (o137 + Int.toNat (IntKind.wrap .i64 (y111 - 1)) * 1) 1) x138 := hr137
 refine WL_gy rfl rfl (Y_ixL il27 rfl hv137 rfl hi137 hj137) <|WL_gy rfl rfl (Y_ld1 (.int .i64 x138) ts3 rfl (hS.bvM hM137) hr137) <|WL_gy rfl rfl (Y_move (.int .i64 x123) rfl) <|WL_gy rfl rfl (Y_geq rfl rfl) <|WL_d 2 rfl ?_
 refine WL_nil (nm_then ?_)
 exact ⟨M109, (decide (x138 ≥ x123)), hF130, hS, hT110_3, hT110_7, hT110_41, hT110_42, hT110_146, hT110_147, hT110_148, rfl, hz⟩
 refine WL_d 10 rfl ?_
 refine WL_nil (nm_then ?_)
 exact ⟨M109, false, hF130, hS, hT110_3, hT110_7, hT110_41, hT110_42, hT110_146, hT110_147, hT110_148, rfl, hz⟩
 rintro T126 w124 ⟨M125, c127, hx128, hS, hT126_3, hT126_7, hT126_41, hT126_42, hT126_146, hT126_147, hT126_148, hT126_175, hz⟩
 replace hcx1 := Rep.mono hx128.1 hcx1
 replace hb15 := Rep.mono hx128.1 hb15
 replace ha64 := Rep.mono hx128.1 ha64
 replace hb84 := Rep.mono hx128.1 hb84
 replace hv106 := repL.mono hx128.1 hv106
 replace hE := Mm.ext.trans hE hx128
 replace hF20 := Mm.ext.trans hF20 hx128
 replace hF71 := Mm.ext.trans hF71 hx128
 replace hF78 := Mm.ext.trans hF78 hx128
 replace hF114 := Mm.ext.trans hF114 hx128
 replace hF121 := Mm.ext.trans hF121 hx128
 rw [nodeGood_j8] at hz
 refine W_cond hT126_175 (fun hc129 => ?_) (fun hc129 => ?_)
 replace hz := bif_ok_t hz hc129
 refine W_seq <|W_reg <|WL_y (Y_assign (.bool false) rfl) ?_
 refine WL_nil (nm_then ?_)
 cases hz
 exact W_ret (rt_blk (rt_then (rt_then (rt_blk (rt_blk (rt_then (rt_then (rt_blk (rt_then (R_t1 rfl rfl ⟨rfl, (St.dropB (St.dropB (St.dropB hS hb82) hb6) hb3).kept⟩))))))))))
 replace hz := bif_ok_f hz hc129
 refine W_skip (nm_blk ?_)
 refine (nm_then ?_)
 exact ⟨M125, hF121, hS, hT126_3, hT126_7, hT126_41, hT126_42, hT126_146, hT126_147, hT126_148, hz⟩
 rintro T119 w117 ⟨M118, hx120, hS, hT119_3, hT119_7, hT119_41, hT119_42, hT119_146, hT119_147, hT119_148, hz⟩
 replace hcx1 := Rep.mono hx120.1 hcx1
 replace hb15 := Rep.mono hx120.1 hb15
 replace ha64 := Rep.mono hx120.1 ha64
 replace hb84 := Rep.mono hx120.1 hb84
 replace hv106 := repL.mono hx120.1 hv106
 replace hE := Mm.ext.trans hE hx120
 replace hF20 := Mm.ext.trans hF20 hx120
 replace hF71 := Mm.ext.trans hF71 hx120
 replace hF78 := Mm.ext.trans hF78 hx120
 replace hF114 := Mm.ext.trans hF114 hx120
 rw [nodeGood_j7] at hz
 refine W_reg <|WL_y (Y_add hT119_148 rfl) <|WL_y (Y_move (.int .i64 (IntKind.wrap .i64 (y111 + 1))) rfl) ?_
 refine WL_nil (nm_then ?_)
 exact ⟨M118, (IntKind.wrap .i64 (y111 + 1)), hF114, hS, hT119_3, hT119_7, hT119_41, hT119_42, hT119_146, hT119_147, rfl, (by rw [← hrec112]; exact hz)⟩
 replace hz := bif_ok_f hz hc116
 refine W_exit <|ex_then <|ex_then <|ex_hit ?_
 refine (nm_blk ?_)
 refine (nm_then ?_)
 exact ⟨M109, hF78, (St.dropB hS hb82), hT110_3, hT110_41, hT110_42, hz⟩
 rintro T76 w74 ⟨M75, hx77, hS, hT76_3, hT76_41, hT76_42, hz⟩
 replace hcx1 := Rep.mono hx77.1 hcx1
 replace hb15 := Rep.mono hx77.1 hb15
 replace ha64 := Rep.mono hx77.1 ha64
 replace hE := Mm.ext.trans hE hx77
 replace hF20 := Mm.ext.trans hF20 hx77
 replace hF71 := Mm.ext.trans hF71 hx77
 rw [nodeGood_j4] at hz
 refine W_reg <|WL_y (Y_add hT76_42 rfl) <|WL_y (Y_move (.int .i64 (IntKind.wrap .i64 (y68 + 1))) rfl) ?_
 refine WL_nil (nm_then ?_)
 exact ⟨M75, (IntKind.wrap .i64 (y68 + 1)), hF71, hS, hT76_3, hT76_41, rfl, (by rw [← hrec69]; exact hz)⟩
 replace hz := bif_ok_f hz hc73
 refine W_exit <|ex_then <|ex_then <|ex_hit ?_
 refine (nm_then ?_)
 refine W_seq <|W_reg <|WL_y (Y_assign (.bool true) rfl) ?_
 refine WL_nil (nm_then ?_)
 cases hz
 exact W_ret (R_t1 rfl rfl ⟨rfl, (St.dropB (St.dropB hS hb6) hb3).kept⟩)
def nodeAhead_j1 (y14 : Int) (rec15 : (List Int) → Int → Option (List Int)) (l23 : List Int) : Option (List Int) :=
 rec15 l23 (IntKind.wrap .i64 (y14 + 1))
def nodeAhead_j2 (l12 : List Int) (y14 : Int) (rec15 : (List Int) → Int → Option (List Int)) (c37 : Bool) : Option (List Int) :=
 (bif c37 then
 (app l12 ([y14] : List Int)).bind fun l44 =>
 nodeAhead_j1 y14 rec15 l44
 else
 nodeAhead_j1 y14 rec15 l12)
def nodeAhead_l1 (x1 : GNode) (x2 : Int) (x3 : List GOp) (x4 : Int) : Nat → (List Int) → Int → Option (List Int)
 | 0, _, _ => none
 | n + 1, l12, y14 =>
 (bif decide (y14 < 32) then
 (idxV x1.entries y14).bind fun x27 =>
 (some x27).bind fun d33 =>
 (bif y14 != x2 then
 (bif d33.state != 0 then
 (some (conflictZ d33.ops x3 x4)).bind fun r51 =>
 nodeAhead_j2 l12 y14 (nodeAhead_l1 x1 x2 x3 x4 n) r51
 else
 nodeAhead_j2 l12 y14 (nodeAhead_l1 x1 x2 x3 x4 n) false)
 else
 nodeAhead_j2 l12 y14 (nodeAhead_l1 x1 x2 x3 x4 n) false)
 else
 some l12)
def nodeAheadD (fu : Nat) (x1 : GNode) (x2 : Int) (x3 : List GOp) (x4 : Int) : Option (List Int) :=
 nodeAhead_l1 x1 x2 x3 x4 fu ([] : List Int) 0
set_option maxRecDepth 100000 in
set_option maxHeartbeats 4000000 in
theorem nodeAhead_ok {M : Mm} {w : World} {cx1 : List Value} {vx3 : Value} {x1 : GNode} {x2 : Int} {x3 : List GOp} {x4 : Int} {fu : Nat} {r : (List Int)} (hA : Agree M w) (hcx1 : rep M cx1 x1) (hvx3 : repL M vx3 x3) (hz : nodeAheadD fu x1 x2 x3 x4 = some r) :
    Calls Try.prog 52 #[.agg cx1.toArray, .int .i64 x2, vx3, .int .i64 x4] w (Gives M w (fun M' u => repL M' u r)) := by
 refine calls_W Try.func52 rfl 39 rfl rfl (by kernel_rfl) fun T hT => ?_
 have hT_0 : T 0 = .agg cx1.toArray := hT 0
 have hT_1 : T 1 = .int .i64 x2 := hT 1
 have hT_2 : T 2 = vx3 := hT 2
 have hT_3 : T 3 = .int .i64 x4 := hT 3
 clear hT
 have hE := Mm.ext.refl w.heap.size noX M
 have hS : St w noX M [] w := St.start hA
 rw [nodeAheadD] at hz
 refine W_seq <|W_reg ?_
 refine WL_c (O_box (v := .agg cx1.toArray) (cs := cx1) hT_0 rfl hS ?_)
 intro b6 w5 hb6 hS
 refine WL_y (Y_assign ((.slice none 0 0)) rfl) ?_
 refine WL_nil (nm_then ?_)
 refine W_seq <|W_reg <|WL_y (Y_assign ((.slice none 0 0)) rfl) ?_
 refine WL_nil (nm_then ?_)
 refine W_seq <|W_seq <|W_reg <|WL_y (Y_fa fa48_0 rfl) ?_
 have ha7 := (GNode.p0 (rr hcx1))
 refine WL_y (Y_ldn ta45 rfl (hS.bvB 0 rfl) (Rep.len ha7)) <|WL_y (Y_move (.int .i64 0) rfl) ?_
 refine WL_nil (nm_then ?_)
 refine W_block ?_
 replace hS := hS.nilRow 3 1
 refine W_loop (fun k16 T' w' => ∃ M10 v13 l12 y14, Mm.ext w.heap.size noX M M10 ∧ St w noX M10 [.row v13 3 1, .box b6 cx1 48] w' ∧ repL M10 v13 l12 ∧ T' 1 = .int .i64 x2 ∧ T' 2 = vx3 ∧ T' 3 = .int .i64 x4 ∧ T' 9 = v13 ∧ T' 13 = .agg (sl cx1 (0 + 0) 192).toArray ∧ T' 14 = .int .i64 y14 ∧ nodeAhead_l1 x1 x2 x3 x4 k16 l12 y14 = some r) fu ?_ ?_ ?_
 exact ⟨M, (.slice none 0 0), ([] : List Int), (0 : Int), (Mm.ext.refl _ _ _), hS, (repL_nil _), hT_1, hT_2, hT_3, rfl, rfl, rfl, hz⟩
 rintro T' w' ⟨_, _, _, _, _, _, _, _, _, _, _, _, _, hz⟩
 rw [nodeAhead_l1] at hz
 cases hz
 intro k16
 rintro T11 w9 ⟨M10, v13, l12, y14, hx18, hS, hv13, hT11_1, hT11_2, hT11_3, hT11_9, hT11_13, hT11_14, hz⟩
 replace hcx1 := Rep.mono hx18.1 hcx1
 replace hvx3 := repL.mono hx18.1 hvx3
 replace ha7 := Rep.mono hx18.1 ha7
 replace hE := Mm.ext.trans hE hx18
 have hF17 := hx18
 rw [nodeAhead_l1] at hz
 obtain ⟨rec15, hrec15⟩ : ∃ f, f = nodeAhead_l1 x1 x2 x3 x4 k16 := ⟨_, rfl⟩
 rw [← hrec15] at hz
 refine W_seq <|W_reg <|WL_y (Y_lss hT11_14 rfl) ?_
 refine WL_nil (nm_then ?_)
 refine W_seq ?_
 refine W_cond rfl (fun hc19 => ?_) (fun hc19 => ?_)
 replace hz := bif_ok_t hz hc19
 refine W_skip (nm_then ?_)
 refine W_seqJ (fun T' w' => ∃ M21 v24 l23, Mm.ext w.heap.size noX M10 M21 ∧ St w noX M21 [.row v24 3 1, .box b6 cx1 48] w' ∧ repL M21 v24 l23 ∧ T' 1 = .int .i64 x2 ∧ T' 2 = vx3 ∧ T' 3 = .int .i64 x4 ∧ T' 9 = v24 ∧ T' 13 = .agg (sl cx1 (0 + 0) 192).toArray ∧ T' 14 = .int .i64 y14 ∧ nodeAhead_j1 y14 rec15 l23 = some r) ?_ ?_
 have hF26 := Mm.ext.refl w.heap.size noX M10
 refine W_block <|W_seq <|W_reg <|WL_y (Y_move (.int .i64 y14) hT11_14) ?_
 obtain ⟨x27, hx28, hz⟩ := bind_ok hz
 obtain ⟨hx28a, hx28b, hx28⟩ := repV_at ha7 hx28
 replace hx28 : rep _ (sl (sl cx1 (0 + 0) 192) (Int.toNat y14 * 6) 6) x27 := hx28
 refine WL_y (Y_ixVn iv45 hT11_13 hT11_14 hx28a hx28b) ?_
 refine WL_c (O_alloc tz44 hS ?_)
 intro b30 w29 hb30 hS
 have zb30 : rep M10 (Zr.zc GEntry) (Zr.zd : GEntry) := Zr.zr
 refine WL_y (Y_assign (.int .i64 y14) rfl) ?_
 obtain ⟨d33, hd32, hz⟩ := bind_ok hz
 refine WL_c (O_sx 0 6 hS rfl zb30 rfl rfl hx28 rfl rfl (Lf (rr zb30) hx28) hd32 ?_)
 intro cs32 w31 hb32 ha32 hs32 hS
 refine WL_nil (nm_then ?_)
 refine W_seqJ (fun T' w' => ∃ M35 c37, Mm.ext w.heap.size noX M10 M35 ∧ St w noX M35 [.box b30 cs32 44, .row v13 3 1, .box b6 cx1 48] w' ∧ T' 1 = .int .i64 x2 ∧ T' 2 = vx3 ∧ T' 3 = .int .i64 x4 ∧ T' 9 = v13 ∧ T' 10 = .int .i64 y14 ∧ T' 13 = .agg (sl cx1 (0 + 0) 192).toArray ∧ T' 14 = .int .i64 y14 ∧ T' 32 = .bool c37 ∧ nodeAhead_j2 l12 y14 rec15 c37 = some r) ?_ ?_
 have hF45 := Mm.ext.refl w.heap.size noX M10
 refine W_reg <|WL_y (Y_move (.int .i64 y14) rfl) <|WL_y (Y_move (.int .i64 x2) hT11_1) <|WL_y (Y_neq rfl rfl) <|WL_y (Y_move (.bool (y14 != x2)) rfl) ?_
 rcases ic hz with ⟨hc46, hz⟩ | ⟨hc46, hz⟩ <;> rw [hc46]
 refine WL_gy rfl rfl (Y_fa fa44_0 rfl) <|WL_gy rfl rfl (Y_ld1 (.int .i64 d33.state) ts3 rfl (hS.bvB 0 rfl) (GEntry.p0 (rr hb32))) <|WL_gy rfl rfl (Y_neq rfl rfl) <|WL_d 2 rfl ?_
 rcases ic hz with ⟨hc47, hz⟩ | ⟨hc47, hz⟩ <;> rw [hc47]
 refine WL_gy rfl rfl (Y_fa fa44_1 rfl) ?_
 obtain ⟨v48, ev48, hv48⟩ := (GEntry.p1 (rr hb32))
 refine WL_gy rfl rfl (Y_ld1 v48 ts22 rfl (hS.bvB 0 rfl) ev48) <|WL_gy rfl rfl (Y_move (vx3) hT11_2) <|WL_gy rfl rfl (Y_move (.int .i64 x4) hT11_3) ?_
 obtain ⟨r51, hr50, hz⟩ := bind_ok hz
 replace hr50 := Option.some.inj hr50
 refine WL_g rfl rfl (O_val (vs := [v48, vx3, .int .i64 x4]) (v := .bool r51) cb72 (args3 rfl rfl rfl) hS (hr50 ▸ (c_conflict hS.agree hv48 hvx3)) ?_)
 intro w49 hS
 refine WL_y (Y_pick_t (.bool r51) rfl rfl) ?_
 refine WL_nil (nm_then ?_)
 exact ⟨M10, r51, hF45, hS, hT11_1, hT11_2, hT11_3, hT11_9, rfl, hT11_13, hT11_14, rfl, hz⟩
 refine WL_d 6 rfl ?_
 refine WL_nil (nm_then ?_)
 exact ⟨M10, false, hF45, hS, hT11_1, hT11_2, hT11_3, hT11_9, rfl, hT11_13, hT11_14, rfl, hz⟩
 refine WL_d 11 rfl ?_
 refine WL_nil (nm_then ?_)
 exact ⟨M10, false, hF45, hS, hT11_1, hT11_2, hT11_3, hT11_9, rfl, hT11_13, hT11_14, rfl, hz⟩
 rintro T36 w34 ⟨M35, c37, hx38, hS, hT36_1, hT36_2, hT36_3, hT36_9, hT36_10, hT36_13, hT36_14, hT36_32, hz⟩
 replace hcx1 := Rep.mono hx38.1 hcx1
 replace hvx3 := repL.mono hx38.1 hvx3
 replace ha7 := Rep.mono hx38.1 ha7
 replace hv13 := repL.mono hx38.1 hv13
 replace hb32 := Rep.mono hx38.1 hb32
 replace hE := Mm.ext.trans hE hx38
 replace hF17 := Mm.ext.trans hF17 hx38
 replace hF26 := Mm.ext.trans hF26 hx38
 rw [nodeAhead_j2] at hz
 refine W_cond hT36_32 (fun hc39 => ?_) (fun hc39 => ?_)
 replace hz := bif_ok_t hz hc39
 refine W_reg <|WL_y (Y_move (v13) hT36_9) <|WL_y (Y_move (.int .i64 y14) hT36_10) ?_
 refine WL_c (O_bslice (α := Int) (l := ([y14] : List Int)) [.int .i64 y14] tl27 (bpc rfl bp0) rfl rfl (by decide) (by decide) (by decide) hS (brc (ri y14 : rep M35 _ _) br0) ?_)
 intro v41 M41 w40 hx41 hv41 hS
 replace hcx1 := Rep.mono hx41.1 hcx1
 replace hvx3 := repL.mono hx41.1 hvx3
 replace ha7 := Rep.mono hx41.1 ha7
 replace hv13 := repL.mono hx41.1 hv13
 replace hb32 := Rep.mono hx41.1 hb32
 replace hE := Mm.ext.trans hE hx41
 replace hF17 := Mm.ext.trans hF17 hx41
 replace hF26 := Mm.ext.trans hF26 hx41
 obtain ⟨l44, hr43, hz⟩ := bind_ok hz
 obtain ⟨hy43, hs43⟩ := app_some hr43
 refine WL_c (O_app (α := Int) (j := 1) tp27 hS rfl rfl rfl hv13 hv41 hy43 ?_)
 intro v43 M43 w42 hx43 hv43 hS
 rw [← hs43] at hv43
 clear hr43 hs43
 replace hcx1 := Rep.mono hx43.1 hcx1
 replace hvx3 := repL.mono hx43.1 hvx3
 replace ha7 := Rep.mono hx43.1 ha7
 replace hv13 := repL.mono hx43.1 hv13
 replace hb32 := Rep.mono hx43.1 hb32
 replace hv41 := repL.mono hx43.1 hv41
 replace hE := Mm.ext.trans hE hx43
 replace hF17 := Mm.ext.trans hF17 hx43
 replace hF26 := Mm.ext.trans hF26 hx43
 refine WL_y (Y_assign (v43) rfl) ?_
 refine WL_nil (nm_blk ?_)
 refine (nm_then ?_)
 exact ⟨M43, v43, l44, hF26, (St.dropB hS hb30), hv43, hT36_1, hT36_2, hT36_3, rfl, hT36_13, hT36_14, hz⟩
 replace hz := bif_ok_f hz hc39
 refine W_skip (nm_blk ?_)
 refine (nm_then ?_)
 exact ⟨M35, v13, l12, hF26, (St.dropB hS hb30), hv13, hT36_1, hT36_2, hT36_3, hT36_9, hT36_13, hT36_14, hz⟩
 rintro T22 w20 ⟨M21, v24, l23, hx25, hS, hv24, hT22_1, hT22_2, hT22_3, hT22_9, hT22_13, hT22_14, hz⟩
 replace hcx1 := Rep.mono hx25.1 hcx1
 replace hvx3 := repL.mono hx25.1 hvx3
 replace ha7 := Rep.mono hx25.1 ha7
 replace hE := Mm.ext.trans hE hx25
 replace hF17 := Mm.ext.trans hF17 hx25
 rw [nodeAhead_j1] at hz
 refine W_reg <|WL_y (Y_add hT22_14 rfl) <|WL_y (Y_move (.int .i64 (IntKind.wrap .i64 (y14 + 1))) rfl) ?_
 refine WL_nil (nm_then ?_)
 exact ⟨M21, v24, l23, (IntKind.wrap .i64 (y14 + 1)), hF17, hS, hv24, hT22_1, hT22_2, hT22_3, hT22_9, hT22_13, rfl, (by rw [← hrec15]; exact hz)⟩
 replace hz := bif_ok_f hz hc19
 refine W_exit <|ex_then <|ex_then <|ex_hit ?_
 refine (nm_then ?_)
 refine W_seq <|W_reg <|WL_y (Y_move (v13) hT11_9) <|WL_y (Y_assign (v13) rfl) ?_
 refine WL_nil (nm_then ?_)
 cases hz
 exact W_ret (R_t1 rfl rfl (Gives.mk (St.dropB (St.drop hS) hb6) hE hv13))
def nodeGraph_l1 (x1 : GNode) : Nat → GGraph → Int → Option GGraph
 | 0, _, _ => none
 | n + 1, d13, y14 =>
 (bif decide (y14 < 32) then
 (idxV x1.entries y14).bind fun x20 =>
 (some x20).bind fun d26 =>
 (inR y14 32).bind fun _ =>
 (idxV d13.known y14).bind fun x35 =>
 (setV d13.known y14 (decide (d26.state ≥ 2))).bind fun a37 =>
 (some ({ d13 with known := a37 } : GGraph)).bind fun d39 =>
 (inR y14 32).bind fun _ =>
 (idxV d39.deps y14).bind fun x45 =>
 (setV d39.deps y14 d26.deps).bind fun a47 =>
 (some ({ d39 with deps := a47 } : GGraph)).bind fun d49 =>
 (nodeGraph_l1 x1 n) d49 (IntKind.wrap .i64 (y14 + 1))
 else
 (some d13).bind fun d54 =>
 some d54)
def nodeGraphD (fu : Nat) (x1 : GNode) : Option GGraph :=
 nodeGraph_l1 x1 fu (Zr.zd : GGraph) 0
set_option maxRecDepth 100000 in
set_option maxHeartbeats 4000000 in
theorem nodeGraph_ok {M : Mm} {w : World} {cx1 : List Value} {x1 : GNode} {fu : Nat} {r : GGraph} (hA : Agree M w) (hcx1 : rep M cx1 x1) (hz : nodeGraphD fu x1 = some r) :
    Calls Try.prog 31 #[.agg cx1.toArray] w (Gives M w (fun M' u => ∃ cs, u = .agg cs.toArray ∧ rep M' cs r)) := by
 refine calls_W Try.func31 rfl 25 rfl rfl (by kernel_rfl) fun T hT => ?_
 have hT_0 : T 0 = .agg cx1.toArray := hT 0
 clear hT
 have hE := Mm.ext.refl w.heap.size noX M
 have hS : St w noX M [] w := St.start hA
 rw [nodeGraphD] at hz
 refine W_seq <|W_reg ?_
 refine WL_c (O_box (v := .agg cx1.toArray) (cs := cx1) hT_0 rfl hS ?_)
 intro b3 w2 hb3 hS
 refine WL_c (O_alloc tz64 hS ?_)
 intro b5 w4 hb5 hS
 have zb5 : rep M (Zr.zc GGraph) (Zr.zd : GGraph) := Zr.zr
 refine WL_nil (nm_then ?_)
 refine W_seq <|W_reg ?_
 refine WL_c (O_alloc tz64 hS ?_)
 intro b7 w6 hb7 hS
 have zb7 : rep M (Zr.zc GGraph) (Zr.zd : GGraph) := Zr.zr
 refine WL_nil (nm_then ?_)
 refine W_seq <|W_seq <|W_reg <|WL_y (Y_fa fa48_0 rfl) ?_
 have ha8 := (GNode.p0 (rr hcx1))
 refine WL_y (Y_ldn ta45 rfl (hS.bvB 2 rfl) (Rep.len ha8)) <|WL_y (Y_move (.int .i64 0) rfl) ?_
 refine WL_nil (nm_then ?_)
 refine W_block ?_
 refine W_loop (fun k16 T' w' => ∃ M10 cs12 d13 y14, Mm.ext w.heap.size noX M M10 ∧ St w noX M10 [.box b7 cs12 64, .box b5 (Zr.zc GGraph) 64, .box b3 cx1 48] w' ∧ rep M10 cs12 d13 ∧ T' 2 = .pointer (some ⟨b5, 0, none⟩) ∧ T' 3 = .pointer (some ⟨b7, 0, none⟩) ∧ T' 7 = .agg (sl cx1 (0 + 0) 192).toArray ∧ T' 8 = .int .i64 y14 ∧ nodeGraph_l1 x1 k16 d13 y14 = some r) fu ?_ ?_ ?_
 exact ⟨M, (Zr.zc GGraph), (Zr.zd : GGraph), (0 : Int), (Mm.ext.refl _ _ _), hS, zb7, rfl, rfl, rfl, rfl, hz⟩
 rintro T' w' ⟨_, _, _, _, _, _, _, _, _, _, _, hz⟩
 rw [nodeGraph_l1] at hz
 cases hz
 intro k16
 rintro T11 w9 ⟨M10, cs12, d13, y14, hx18, hS, hb12, hT11_2, hT11_3, hT11_7, hT11_8, hz⟩
 replace hcx1 := Rep.mono hx18.1 hcx1
 replace zb5 := Rep.mono hx18.1 zb5
 replace ha8 := Rep.mono hx18.1 ha8
 replace hE := Mm.ext.trans hE hx18
 have hF17 := hx18
 rw [nodeGraph_l1] at hz
 obtain ⟨rec15, hrec15⟩ : ∃ f, f = nodeGraph_l1 x1 k16 := ⟨_, rfl⟩
 rw [← hrec15] at hz
 refine W_seq <|W_reg <|WL_y (Y_lss hT11_8 rfl) ?_
 refine WL_nil (nm_then ?_)
 refine W_seq ?_
 refine W_cond rfl (fun hc19 => ?_) (fun hc19 => ?_)
 replace hz := bif_ok_t hz hc19
 refine W_skip (nm_then ?_)
 refine W_seq <|W_block <|W_seq <|W_reg <|WL_y (Y_move (.int .i64 y14) hT11_8) ?_
 obtain ⟨x20, hx21, hz⟩ := bind_ok hz
 obtain ⟨hx21a, hx21b, hx21⟩ := repV_at ha8 hx21
 replace hx21 : rep _ (sl (sl cx1 (0 + 0) 192) (Int.toNat y14 * 6) 6) x20 := hx21
 refine WL_y (Y_ixVn iv45 hT11_7 hT11_8 hx21a hx21b) ?_
 refine WL_c (O_alloc tz44 hS ?_)
 intro b23 w22 hb23 hS
 have zb23 : rep M10 (Zr.zc GEntry) (Zr.zd : GEntry) := Zr.zr
 refine WL_y (Y_assign (.int .i64 y14) rfl) ?_
 obtain ⟨d26, hd25, hz⟩ := bind_ok hz
 refine WL_c (O_sx 0 6 hS rfl zb23 rfl rfl hx21 rfl rfl (Lf (rr zb23) hx21) hd25 ?_)
 intro cs25 w24 hb25 ha25 hs25 hS
 refine WL_nil (nm_then ?_)
 refine W_drawB (Rd M10 [.box b23 cs25 44]) (inL []) mixed hS fun w27 hS => ?_
 have hG28 := Mm.ext.refl w.heap.size noX M10
 have hR29 : Rd M10 [.box b23 cs25 44] w27 := Rd.of hS hG28 (by simp)
 refine WB_y (i := 0) rfl (by kernel_rfl) rfl (Y_move (.int .i64 y14) rfl) (fun _ => hR29) <|WB_y (i := 1) rfl (by kernel_rfl) rfl (Y_move (.int .i64 y14) rfl) (fun _ => hR29) <|WB_y (i := 2) rfl (by kernel_rfl) rfl (Y_fa fa44_0 rfl) (fun _ => hR29) <|WB_ld (i := 3) rfl (by kernel_rfl) rfl (inL_lt rfl) (by kernel_rfl) (by kernel_rfl) (Y_ld1 (.int .i64 d26.state) ts3 rfl (bvR 0 rfl) (GEntry.p0 (rr hb25))) hR29 <|WB_y (i := 4) rfl (by kernel_rfl) rfl (Y_geq rfl rfl) (fun _ => hR29) <|WB_y (i := 5) rfl (by kernel_rfl) rfl (Y_fa fa44_3 rfl) (fun _ => hR29) ?_
 obtain ⟨v30, ev30, hv30⟩ := (GEntry.p3 (rr hb25))
 refine WB_ld (i := 6) rfl (by kernel_rfl) rfl (inL_lt rfl) (by kernel_rfl) (by kernel_rfl) (Y_ld1 v30 ts27 rfl (bvR 0 rfl) ev30) hR29 <|WB_y (i := 7) rfl (by kernel_rfl) rfl (Y_fa fa64_0 hT11_3) (fun _ => hR29) ?_
 obtain ⟨u31, hx32, hz⟩ := bind_ok hz
 obtain ⟨hx32a, hx32b⟩ := inR_some hx32
 refine WB_y (i := 8) rfl (by kernel_rfl) rfl (Y_ixA ia61 rfl rfl hx32a hx32b) (fun _ => hR29) <|WB_y (i := 10) rfl (by kernel_rfl) rfl (Y_fa fa64_1 hT11_3) (fun _ => hR29) ?_
 obtain ⟨x35, hx36, hz⟩ := bind_ok hz
 obtain ⟨a37, hx38, hz⟩ := bind_ok hz
 obtain ⟨d39, hd34, hz⟩ := bind_ok hz
 refine WB_one (i := 9) (by kernel_rfl) rfl (O_sx 1 1 hS rfl hb12 rfl rfl (rb (decide (d26.state ≥ 2)) : rep M10 _ _) rfl rfl (GGraph.u0 (rr hb12) (vu (k := 1) rfl rfl (GGraph.p0 (rr hb12)) (Lf (vp (k := 1) rfl rfl (GGraph.p0 (rr hb12)) hx36) (rb (decide (d26.state ≥ 2)) : rep M10 _ _)) hx38)) hd34 ?_)
 intro cs34 w33 hb34 ha34 hs34 hS
 have hR40 : Rd M10 [.box b23 cs25 44] w33 := Rd.of hS hG28 (by simp)
 refine ⟨fun _ => hR40, ?_⟩
 obtain ⟨u41, hx42, hz⟩ := bind_ok hz
 obtain ⟨hx42a, hx42b⟩ := inR_some hx42
 refine WB_y (i := 11) rfl (by kernel_rfl) rfl (Y_ixA ia62 rfl rfl hx42a hx42b) (fun _ => hR40) ?_
 obtain ⟨x45, hx46, hz⟩ := bind_ok hz
 obtain ⟨a47, hx48, hz⟩ := bind_ok hz
 obtain ⟨d49, hd44, hz⟩ := bind_ok hz
 refine WB_one (i := 12) (by kernel_rfl) rfl (O_sx 1 1 hS rfl hb34 rfl rfl (repL_rep hv30) (repL_cells hv30) rfl (GGraph.u1 (rr hb34) (vu (k := 1) rfl rfl (GGraph.p1 (rr hb34)) (Lf (vp (k := 1) rfl rfl (GGraph.p1 (rr hb34)) hx46) (repL_rep hv30)) hx48)) hd44 ?_)
 intro cs44 w43 hb44 ha44 hs44 hS
 have hR50 : Rd M10 [.box b23 cs25 44] w43 := Rd.of hS hG28 (by simp)
 refine ⟨fun _ => hR50, ?_⟩
 refine WB_done (by kernel_rfl) (nm_blk ?_)
 refine (nm_then ?_)
 refine W_reg <|WL_y (Y_add hT11_8 rfl) <|WL_y (Y_move (.int .i64 (IntKind.wrap .i64 (y14 + 1))) rfl) ?_
 refine WL_nil (nm_then ?_)
 exact ⟨M10, cs44, d49, (IntKind.wrap .i64 (y14 + 1)), hF17, (St.dropB hS hb23), hb44, hT11_2, hT11_3, hT11_7, rfl, (by rw [← hrec15]; exact hz)⟩
 replace hz := bif_ok_f hz hc19
 refine W_exit <|ex_then <|ex_then <|ex_hit ?_
 refine (nm_then ?_)
 refine W_seq <|W_reg ?_
 have ha51 := (rr hb12)
 refine WL_y (Y_ldn ta64 hT11_3 (hS.bvB 0 rfl) (Rep.len ha51)) ?_
 obtain ⟨d54, hd53, hz⟩ := bind_ok hz
 refine WL_c (O_sx 1 64 hS rfl zb5 hT11_2 rfl ha51 rfl rfl (Lf (rr zb5) ha51) hd53 ?_)
 intro cs53 w52 hb53 ha53 hs53 hS
 refine WL_nil (nm_then ?_)
 cases hz
 exact W_ret (R_c (j := 1) rfl hT11_2 (by rw [Rep.len hb53]; exact ta64) hS rfl (Gives.mk (St.dropB (St.dropB (St.dropB hS hb7) hb5) hb3) hE ⟨_, rfl, hb53⟩))
def nodeOne_j1 (y58 : Int) (rec59 : GNode → Int → Option GNode) (d68 : GNode) : Option GNode :=
 rec59 d68 (IntKind.wrap .i64 (y58 + 1))
def nodeOne_j2 (y58 : Int) (rec59 : GNode → Int → Option GNode) (d118 : GNode) : Option GNode :=
 nodeOne_j1 y58 rec59 d118
def nodeOne_l1 (x3 : Int) (x4 : Int) (x43 : GEntry) : Nat → GNode → Int → Option GNode
 | 0, _, _ => none
 | n + 1, d51, y58 =>
 (bif decide (y58 < (x43.ops.length : Int)) then
 (idx x43.ops y58).bind fun x78 =>
 (some x78).bind fun d84 =>
 (some (shardZ d84.key)).bind fun r87 =>
 (bif r87 == x4 then
 (inR d84.key 8).bind fun _ =>
 (idxV d51.values d84.key).bind fun x94 =>
 (some (doZ x94 d84)).bind fun r99 =>
 (inR d84.key 8).bind fun _ =>
 (idxV d51.values d84.key).bind fun x105 =>
 (setV d51.values d84.key r99).bind fun a107 =>
 (some ({ d51 with values := a107 } : GNode)).bind fun d109 =>
 (idxV d109.entries x3).bind fun x129 =>
 (idxV d109.entries x3).bind fun x132 =>
 (inR d84.key 8).bind fun _ =>
 (idxV d109.values d84.key).bind fun x137 =>
 (app x129.at_ ([y58] : List Int)).bind fun l143 =>
 (app x132.values ([x137] : List Int)).bind fun l148 =>
 (idxV d109.entries x3).bind fun x151 =>
 (setV d109.entries x3 ({ x151 with at_ := l143 })).bind fun a153 =>
 (some ({ d109 with entries := a153 } : GNode)).bind fun d155 =>
 (idxV d155.entries x3).bind fun x162 =>
 (setV d155.entries x3 ({ x162 with values := l148 })).bind fun a164 =>
 (some ({ d155 with entries := a164 } : GNode)).bind fun d166 =>
 nodeOne_j2 y58 (nodeOne_l1 x3 x4 x43 n) d166
 else
 nodeOne_j1 y58 (nodeOne_l1 x3 x4 x43 n) d51)
 else
 (app d51.order ([x3] : List Int)).bind fun l187 =>
 (some ({ d51 with order := l187 } : GNode)).bind fun d190 =>
 (some d190).bind fun d198 =>
 some d198)
def nodeOneD (fu : Nat) (x1 : GNode) (x3 : Int) (x4 : Int) : Option GNode :=
 (inR x3 32).bind fun _ =>
 (idxV x1.entries x3).bind fun x13 =>
 (setV x1.entries x3 ({ x13 with state := 3 })).bind fun a15 =>
 (some ({ x1 with entries := a15 } : GNode)).bind fun d17 =>
 (idxV d17.entries x3).bind fun x23 =>
 (setV d17.entries x3 ({ x23 with at_ := [] })).bind fun a25 =>
 (some ({ d17 with entries := a25 } : GNode)).bind fun d27 =>
 (idxV d27.entries x3).bind fun x34 =>
 (setV d27.entries x3 ({ x34 with values := [] })).bind fun a36 =>
 (some ({ d27 with entries := a36 } : GNode)).bind fun d38 =>
 (idxV d38.entries x3).bind fun x43 =>
 nodeOne_l1 x3 x4 x43 fu d38 0
set_option maxRecDepth 100000 in
set_option maxHeartbeats 4000000 in
theorem nodeOne_ok {M : Mm} {w : World} {cx1 : List Value} {ux1_1 : Value} {x1 : GNode} {x3 : Int} {x4 : Int} {fu : Nat} {r : GNode} (hS : St w (lentX [.row ux1_1 3 1]) M [.row ux1_1 3 1] w) (hcx1 : rep M cx1 x1) (hpx1_1 : sl cx1 192 1 = [ux1_1]) (hz : nodeOneD fu x1 x3 x4 = some r) :
    Calls Try.prog 74 #[.agg cx1.toArray, .int .i64 x3, .int .i64 x4] w (GivesL M w [.row ux1_1 3 1] (fun M' u L' => ∃ c0 u0, u = .agg c0.toArray ∧ L' = [.row u0 3 1] ∧ rep M' c0 r ∧ sl c0 192 1 = [u0])) := by
 refine calls_W Try.func74 rfl 80 rfl rfl (by kernel_rfl) fun T hT => ?_
 have hT_0 : T 0 = .agg cx1.toArray := hT 0
 have hT_1 : T 1 = .int .i64 x3 := hT 1
 have hT_2 : T 2 = .int .i64 x4 := hT 2
 clear hT
 have hE := Mm.ext.refl w.heap.size (lentX [.row ux1_1 3 1]) M
 rw [nodeOneD] at hz
 refine W_seq <|W_reg ?_
 refine WL_c (O_box (v := .agg cx1.toArray) (cs := cx1) hT_0 rfl hS ?_)
 intro b6 w5 hb6 hS
 refine WL_c (O_alloc tz48 hS ?_)
 intro b8 w7 hb8 hS
 have zb8 : rep M (Zr.zc GNode) (Zr.zd : GNode) := Zr.zr
 refine WL_nil (nm_then ?_)
 refine W_seq <|W_reg <|WL_y (Y_move (.int .i64 x3) hT_1) <|WL_y (Y_fa fa48_0 rfl) ?_
 obtain ⟨u9, hx10, hz⟩ := bind_ok hz
 obtain ⟨hx10a, hx10b⟩ := inR_some hx10
 refine WL_y (Y_ixA ia45 rfl rfl hx10a hx10b) <|WL_y (Y_assign (.pointer (some ⟨b6, 0 + 0 + Int.toNat x3 * 6, none⟩)) rfl) ?_
 refine WL_nil (nm_then ?_)
 refine W_seq <|W_reg <|WL_y (Y_move (.pointer (some ⟨b6, 0 + 0 + Int.toNat x3 * 6, none⟩)) rfl) <|WL_y (Y_nil rfl) <|WL_y (Y_fa fa44_0 rfl) ?_
 obtain ⟨x13, hx14, hz⟩ := bind_ok hz
 obtain ⟨a15, hx16, hz⟩ := bind_ok hz
 obtain ⟨d17, hd12, hz⟩ := bind_ok hz
 have hq19 := (idxV_some hx14)
 refine WL_c (O_sx 1 1 hS rfl hcx1 rfl rfl (ri 3 : rep M _ _) rfl rfl (GNode.u0 (rr hcx1) (vu (k := 6) rfl rfl (GNode.p0 (rr hcx1)) (GEntry.u0 (vp (k := 6) rfl rfl (GNode.p0 (rr hcx1)) hx14) (Lf (GEntry.p0 (vp (k := 6) rfl rfl (GNode.p0 (rr hcx1)) hx14)) (ri 3 : rep M _ _))) hx16)) hd12 ?_)
 intro cs12 w11 hb12 ha12 hs12 hS
 have hp18 := (ha12 (by omega)).trans hpx1_1
 refine WL_nil (nm_then ?_)
 refine W_seq <|W_reg <|WL_d 2 rfl <|WL_y (Y_nil rfl) <|WL_y (Y_fa fa44_4 rfl) ?_
 replace hS := hS.nilRow 3 1
 obtain ⟨x23, hx24, hz⟩ := bind_ok hz
 obtain ⟨a25, hx26, hz⟩ := bind_ok hz
 obtain ⟨d27, hd22, hz⟩ := bind_ok hz
 have hq29 := (idxV_some hx24)
 refine WL_c (O_sx 2 1 hS rfl hb12 rfl rfl (show rep M [Value.slice none 0 0] ([] : List Int) from repL_rep (repL_nil _)) rfl rfl (GNode.u0 (rr hb12) (vu (k := 6) rfl rfl (GNode.p0 (rr hb12)) (GEntry.u4 (vp (k := 6) rfl rfl (GNode.p0 (rr hb12)) hx24) (Lf (GEntry.p4 (vp (k := 6) rfl rfl (GNode.p0 (rr hb12)) hx24)) (show rep M [Value.slice none 0 0] ([] : List Int) from repL_rep (repL_nil _)))) hx26)) hd22 ?_)
 intro cs22 w20 hb22 ha22 hs22 hS
 have hp28 := (ha22 (by omega)).trans hp18
 have hp30 := hs22
 refine WL_y (Y_nil rfl) <|WL_y (Y_fa fa44_5 rfl) ?_
 replace hS := hS.nilRow 3 1
 obtain ⟨x34, hx35, hz⟩ := bind_ok hz
 obtain ⟨a36, hx37, hz⟩ := bind_ok hz
 obtain ⟨d38, hd33, hz⟩ := bind_ok hz
 have hq41 := (idxV_some hx35)
 refine WL_c (O_sx 3 1 hS rfl hb22 rfl rfl (show rep M [Value.slice none 0 0] ([] : List Int) from repL_rep (repL_nil _)) rfl rfl (GNode.u0 (rr hb22) (vu (k := 6) rfl rfl (GNode.p0 (rr hb22)) (GEntry.u5 (vp (k := 6) rfl rfl (GNode.p0 (rr hb22)) hx35) (Lf (GEntry.p5 (vp (k := 6) rfl rfl (GNode.p0 (rr hb22)) hx35)) (show rep M [Value.slice none 0 0] ([] : List Int) from repL_rep (repL_nil _)))) hx37)) hd33 ?_)
 intro cs33 w31 hb33 ha33 hs33 hS
 have hp39 := (ha33 (by omega)).trans hp28
 have hp40 := (ha33 (by omega)).trans hp30
 have hp42 := hs33
 refine WL_nil (nm_then ?_)
 refine W_seq <|W_seq <|W_reg <|WL_y (Y_move (.pointer (some ⟨b6, 0 + 0 + Int.toNat x3 * 6, none⟩)) rfl) <|WL_y (Y_nil rfl) <|WL_y (Y_fa fa44_1 rfl) ?_
 obtain ⟨x43, hx44, hz⟩ := bind_ok hz
 obtain ⟨v45, ev45, hv45⟩ := (GEntry.p1 (vp (k := 6) rfl rfl (GNode.p0 (rr hb33)) hx44))
 refine WL_y (Y_ld1 v45 ts22 rfl (hS.bvB 3 rfl) ev45) ?_
 obtain ⟨a46, c46, hv46, _⟩ := repL_shape hv45
 refine WL_y (Y_lenL Try.underlying22 (tr2 hv46 rfl)) <|WL_y (Y_move (.int .i64 0) rfl) ?_
 refine WL_nil (nm_then ?_)
 refine W_block ?_
 refine W_loop (fun k60 T' w' => ∃ M48 cs50 d51 v52 v54 v56 y58, Mm.ext w.heap.size (lentX [.row ux1_1 3 1]) M M48 ∧ St w (lentX [.row ux1_1 3 1]) M48 [.row v56 3 1, .row v54 3 1, .box b8 (Zr.zc GNode) 48, .box b6 cs50 48, .row v52 3 1] w' ∧ rep M48 cs50 d51 ∧ sl cs50 (192) 1 = [v52] ∧ sl cs50 (0 + 0 + Int.toNat x3 * 6 + 4) 1 = [v54] ∧ sl cs50 (0 + 0 + Int.toNat x3 * 6 + 5) 1 = [v56] ∧ T' 1 = .int .i64 x3 ∧ T' 2 = .int .i64 x4 ∧ T' 3 = .pointer (some ⟨b6, 0, none⟩) ∧ T' 6 = .pointer (some ⟨b8, 0, none⟩) ∧ T' 7 = .pointer (some ⟨b6, 0 + 0 + Int.toNat x3 * 6, none⟩) ∧ T' 25 = v45 ∧ T' 26 = .int .i64 (x43.ops.length : Int) ∧ T' 27 = .int .i64 y58 ∧ nodeOne_l1 x3 x4 x43 k60 d51 y58 = some r) fu ?_ ?_ ?_
 exact ⟨M, cs33, d38, ux1_1, (.slice none 0 0), (.slice none 0 0), (0 : Int), (Mm.ext.refl _ _ _), hS, hb33, hp39, hp40, hp42, hT_1, hT_2, rfl, rfl, rfl, rfl, rfl, rfl, hz⟩
 rintro T' w' ⟨_, _, _, _, _, _, _, _, _, _, _, _, _, _, _, _, _, _, _, _, _, hz⟩
 rw [nodeOne_l1] at hz
 cases hz
 intro k60
 rintro T49 w47 ⟨M48, cs50, d51, v52, v54, v56, y58, hx62, hS, hb50, hp53, hp55, hp57, hT49_1, hT49_2, hT49_3, hT49_6, hT49_7, hT49_25, hT49_26, hT49_27, hz⟩
 replace zb8 := Rep.mono hx62.1 zb8
 replace hv45 := repL.mono hx62.1 hv45
 replace hE := Mm.ext.trans hE hx62
 have hF61 := hx62
 rw [nodeOne_l1] at hz
 obtain ⟨rec59, hrec59⟩ : ∃ f, f = nodeOne_l1 x3 x4 x43 k60 := ⟨_, rfl⟩
 rw [← hrec59] at hz
 refine W_seq <|W_reg <|WL_y (Y_lss hT49_27 hT49_26) ?_
 refine WL_nil (nm_then ?_)
 refine W_seq ?_
 refine W_cond rfl (fun hc63 => ?_) (fun hc63 => ?_)
 replace hz := bif_ok_t hz hc63
 refine W_skip (nm_then ?_)
 refine W_seqJ (fun T' w' => ∃ M65 cs67 d68 v69 v71 v73, Mm.ext w.heap.size (lentX [.row ux1_1 3 1]) M48 M65 ∧ St w (lentX [.row ux1_1 3 1]) M65 [.row v73 3 1, .row v71 3 1, .box b8 (Zr.zc GNode) 48, .box b6 cs67 48, .row v69 3 1] w' ∧ rep M65 cs67 d68 ∧ sl cs67 (192) 1 = [v69] ∧ sl cs67 (0 + 0 + Int.toNat x3 * 6 + 4) 1 = [v71] ∧ sl cs67 (0 + 0 + Int.toNat x3 * 6 + 5) 1 = [v73] ∧ T' 1 = .int .i64 x3 ∧ T' 2 = .int .i64 x4 ∧ T' 3 = .pointer (some ⟨b6, 0, none⟩) ∧ T' 6 = .pointer (some ⟨b8, 0, none⟩) ∧ T' 7 = .pointer (some ⟨b6, 0 + 0 + Int.toNat x3 * 6, none⟩) ∧ T' 25 = v45 ∧ T' 26 = .int .i64 (x43.ops.length : Int) ∧ T' 27 = .int .i64 y58 ∧ nodeOne_j1 y58 rec59 d68 = some r) ?_ ?_
 have hF76 := Mm.ext.refl w.heap.size (lentX [.row ux1_1 3 1]) M48
 refine W_block <|W_seq <|W_reg <|WL_y (Y_move (.int .i64 y58) hT49_27) ?_
 obtain ⟨x78, hx77, hz⟩ := bind_ok hz
 obtain ⟨b77, o77, c77, p77, hv77, hi77, hj77, hM77, hr77⟩ := repL_at hv45 hx77
 replace hr77 : rep _ (sl p77 (o77 + Int.toNat y58 * 3) 3) x78 := hr77
 refine WL_y (Y_ixL il22 hT49_25 hv77 hT49_27 hi77 hj77) ?_
 have ha79 := hr77
 refine WL_y (Y_ldn ta78 rfl (hS.bvM hM77) (Rep.len ha79)) ?_
 refine WL_c (O_alloc tz78 hS ?_)
 intro b81 w80 hb81 hS
 have zb81 : rep M48 (Zr.zc GOp) (Zr.zd : GOp) := Zr.zr
 refine WL_y (Y_assign (.int .i64 y58) rfl) ?_
 obtain ⟨d84, hd83, hz⟩ := bind_ok hz
 refine WL_c (O_sx 0 3 hS rfl zb81 rfl rfl ha79 rfl rfl (Lf (rr zb81) ha79) hd83 ?_)
 intro cs83 w82 hb83 ha83 hs83 hS
 refine WL_nil (nm_then ?_)
 refine W_seq <|W_reg <|WL_y (Y_fa fa78_1 rfl) <|WL_y (Y_ld1 (.int .i64 d84.key) ts3 rfl (hS.bvB 0 rfl) (GOp.p1 (rr hb83))) ?_
 obtain ⟨r87, hr86, hz⟩ := bind_ok hz
 replace hr86 := Option.some.inj hr86
 refine WL_c (O_val (vs := [.int .i64 d84.key]) (v := .int .i64 r87) cb48 (args1 rfl) hS (hr86 ▸ (c_shard)) ?_)
 intro w85 hS
 refine WL_y (Y_move (.int .i64 x4) hT49_2) <|WL_y (Y_eql rfl rfl) ?_
 refine WL_nil (nm_then ?_)
 refine W_cond rfl (fun hc88 => ?_) (fun hc88 => ?_)
 replace hz := bif_ok_t hz hc88
 refine W_seq <|W_drawB (Rd M48 [.box b81 cs83 78, .box b6 cs50 48]) (inL [11]) mixed hS fun w89 hS => ?_
 have hG90 := Mm.ext.refl w.heap.size (lentX [.row ux1_1 3 1]) M48
 have hR91 : Rd M48 [.box b81 cs83 78, .box b6 cs50 48] w89 := Rd.of hS hG90 (by simp)
 refine WB_y (i := 0) rfl (by kernel_rfl) rfl (Y_fa fa78_1 rfl) (fun _ => hR91) <|WB_ld (i := 1) rfl (by kernel_rfl) rfl (inL_lt rfl) (by kernel_rfl) (by kernel_rfl) (Y_ld1 (.int .i64 d84.key) ts3 rfl (bvR 0 rfl) (GOp.p1 (rr hb83))) hR91 <|WB_y (i := 2) rfl (by kernel_rfl) rfl (Y_fa fa78_1 rfl) (fun _ => hR91) <|WB_ld (i := 3) rfl (by kernel_rfl) rfl (inL_lt rfl) (by kernel_rfl) (by kernel_rfl) (Y_ld1 (.int .i64 d84.key) ts3 rfl (bvR 0 rfl) (GOp.p1 (rr hb83))) hR91 <|WB_y (i := 4) rfl (by kernel_rfl) rfl (Y_fa fa48_2 hT49_3) (fun _ => hR91) ?_
 obtain ⟨u92, hx93, hz⟩ := bind_ok hz
 obtain ⟨hx93a, hx93b⟩ := inR_some hx93
 refine WB_y (i := 5) rfl (by kernel_rfl) rfl (Y_ixA ia46 rfl rfl hx93a hx93b) (fun _ => hR91) ?_
 obtain ⟨x94, hx95, hz⟩ := bind_ok hz
 refine WB_ld (i := 6) rfl (by kernel_rfl) rfl (inL_lt rfl) (by kernel_rfl) (by kernel_rfl) (Y_ld1 (.int .i64 x94) ts3 rfl (bvR 1 rfl) (vp (k := 1) rfl rfl (GNode.p2 (rr hb50)) hx95)) hR91 ?_
 have ha96 := (rr hb83)
 refine WB_ld (i := 7) rfl (by kernel_rfl) rfl (inL_lt rfl) (by kernel_rfl) (by kernel_rfl) (Y_ldn ta78 rfl (bvR 0 rfl) (Rep.len ha96)) hR91 <|WB_y (i := 9) rfl (by kernel_rfl) rfl (Y_fa fa48_2 hT49_3) (fun _ => hR91) ?_
 obtain ⟨r99, hr98, hz⟩ := bind_ok hz
 replace hr98 := Option.some.inj hr98
 refine WB_one (i := 8) (by kernel_rfl) rfl (O_val (vs := [.int .i64 x94, .agg (sl cs83 (0) 3).toArray]) (v := .int .i64 r99) cb88 (args2 rfl rfl) hS (hr98 ▸ (c_do hS.agree ha96)) ?_)
 intro w97 hS
 have hR100 : Rd M48 [.box b81 cs83 78, .box b6 cs50 48] w97 := Rd.of hS hG90 (by simp)
 refine ⟨fun _ => hR100, ?_⟩
 obtain ⟨u101, hx102, hz⟩ := bind_ok hz
 obtain ⟨hx102a, hx102b⟩ := inR_some hx102
 refine WB_y (i := 10) rfl (by kernel_rfl) rfl (Y_ixA ia46 rfl rfl hx102a hx102b) (fun _ => hR100) ?_
 obtain ⟨x105, hx106, hz⟩ := bind_ok hz
 obtain ⟨a107, hx108, hz⟩ := bind_ok hz
 obtain ⟨d109, hd104, hz⟩ := bind_ok hz
 have hq113 := (idxV_some hx106)
 refine WB_one (i := 11) (by kernel_rfl) rfl (O_sx 4 1 hS rfl hb50 rfl rfl (ri r99 : rep M48 _ _) rfl rfl (GNode.u2 (rr hb50) (vu (k := 1) rfl rfl (GNode.p2 (rr hb50)) (Lf (vp (k := 1) rfl rfl (GNode.p2 (rr hb50)) hx106) (ri r99 : rep M48 _ _)) hx108)) hd104 ?_)
 intro cs104 w103 hb104 ha104 hs104 hS
 have hp110 := (ha104 (by omega)).trans hp53
 have hp111 := (ha104 (by omega)).trans hp55
 have hp112 := (ha104 (by omega)).trans hp57
 refine ⟨fun h => Bool.noConfusion (show false = true from h), ?_⟩
 refine WB_done (by kernel_rfl) (nm_then ?_)
 refine W_J (fun T' w' => ∃ M115 cs117 d118 v120 v122, Mm.ext w.heap.size (lentX [.row ux1_1 3 1]) M48 M115 ∧ St w (lentX [.row ux1_1 3 1]) M115 [.box b81 cs83 78, .row v122 3 1, .row v120 3 1, .box b8 (Zr.zc GNode) 48, .box b6 cs117 48, .row v52 3 1] w' ∧ rep M115 cs117 d118 ∧ sl cs117 (192) 1 = [v52] ∧ sl cs117 (0 + 0 + Int.toNat x3 * 6 + 4) 1 = [v120] ∧ sl cs117 (0 + 0 + Int.toNat x3 * 6 + 5) 1 = [v122] ∧ T' 1 = .int .i64 x3 ∧ T' 2 = .int .i64 x4 ∧ T' 3 = .pointer (some ⟨b6, 0, none⟩) ∧ T' 6 = .pointer (some ⟨b8, 0, none⟩) ∧ T' 7 = .pointer (some ⟨b6, 0 + 0 + Int.toNat x3 * 6, none⟩) ∧ T' 25 = v45 ∧ T' 26 = .int .i64 (x43.ops.length : Int) ∧ T' 27 = .int .i64 y58 ∧ nodeOne_j2 y58 rec59 d118 = some r) ?_ ?_
 have hF125 := Mm.ext.refl w.heap.size (lentX [.row ux1_1 3 1]) M48
 refine W_drawB (Rd M48 [.box b81 cs83 78, .box b6 cs104 48]) (inL [22, 25]) mixed hS fun w126 hS => ?_
 have hG127 := Mm.ext.refl w.heap.size (lentX [.row ux1_1 3 1]) M48
 have hR128 : Rd M48 [.box b81 cs83 78, .box b6 cs104 48] w126 := Rd.of hS hG127 (by simp)
 refine WB_y (i := 0) rfl (by kernel_rfl) rfl (Y_move (.pointer (some ⟨b6, 0 + 0 + Int.toNat x3 * 6, none⟩)) hT49_7) (fun _ => hR128) <|WB_y (i := 1) rfl (by kernel_rfl) rfl (Y_move (.pointer (some ⟨b6, 0 + 0 + Int.toNat x3 * 6, none⟩)) hT49_7) (fun _ => hR128) <|WB_y (i := 2) rfl (by kernel_rfl) rfl (Y_move (.pointer (some ⟨b6, 0 + 0 + Int.toNat x3 * 6, none⟩)) hT49_7) (fun _ => hR128) <|WB_y (i := 3) rfl (by kernel_rfl) rfl (Y_nil rfl) (fun _ => hR128) <|WB_y (i := 4) rfl (by kernel_rfl) rfl (Y_fa fa44_4 rfl) (fun _ => hR128) ?_
 obtain ⟨x129, hx130, hz⟩ := bind_ok hz
 obtain ⟨v131, ev131, hv131⟩ := (GEntry.p4 (vp (k := 6) rfl rfl (GNode.p0 (rr hb104)) hx130))
 rw [sl_one_eq ev131 hp111] at hv131
 refine WB_ld (i := 5) rfl (by kernel_rfl) rfl (inL_lt rfl) (by kernel_rfl) (by kernel_rfl) (Y_ld1 v54 ts27 rfl (bvR 1 rfl) hp111) hR128 <|WB_y (i := 6) rfl (by kernel_rfl) rfl (Y_move (.int .i64 y58) rfl) (fun _ => hR128) <|WB_y (i := 9) rfl (by kernel_rfl) rfl (Y_move (.pointer (some ⟨b6, 0 + 0 + Int.toNat x3 * 6, none⟩)) hT49_7) (fun _ => hR128) <|WB_y (i := 10) rfl (by kernel_rfl) rfl (Y_nil rfl) (fun _ => hR128) <|WB_y (i := 11) rfl (by kernel_rfl) rfl (Y_fa fa44_5 rfl) (fun _ => hR128) ?_
 obtain ⟨x132, hx133, hz⟩ := bind_ok hz
 obtain ⟨v134, ev134, hv134⟩ := (GEntry.p5 (vp (k := 6) rfl rfl (GNode.p0 (rr hb104)) hx133))
 rw [sl_one_eq ev134 hp112] at hv134
 refine WB_ld (i := 12) rfl (by kernel_rfl) rfl (inL_lt rfl) (by kernel_rfl) (by kernel_rfl) (Y_ld1 v56 ts27 rfl (bvR 1 rfl) hp112) hR128 <|WB_y (i := 13) rfl (by kernel_rfl) rfl (Y_fa fa78_1 rfl) (fun _ => hR128) <|WB_ldC (C := inL [16, 17, 18, 22, 25]) (i := 14) rfl (by kernel_rfl) rfl (inL_lt rfl) ⟨by kernel_rfl, inL_lt rfl⟩ (by kernel_rfl) (by kernel_rfl) (Y_ld1 (.int .i64 d84.key) ts3 rfl (bvR 0 rfl) (GOp.p1 (rr hb83))) hR128 <|WB_y (i := 15) rfl (by kernel_rfl) rfl (Y_fa fa48_2 hT49_3) (fun _ => hR128) ?_
 obtain ⟨u135, hx136, hz⟩ := bind_ok hz
 obtain ⟨hx136a, hx136b⟩ := inR_some hx136
 refine WB_y (i := 16) rfl (by kernel_rfl) rfl (Y_ixA ia46 rfl rfl hx136a hx136b) (fun _ => hR128) ?_
 obtain ⟨x137, hx138, hz⟩ := bind_ok hz
 refine WB_ld (i := 17) rfl (by kernel_rfl) rfl (inL_lt rfl) (by kernel_rfl) (by kernel_rfl) (Y_ld1 (.int .i64 x137) ts3 rfl (bvR 1 rfl) (vp (k := 1) rfl rfl (GNode.p2 (rr hb104)) hx138)) hR128 ?_
 obtain ⟨l143, hr142, hz⟩ := bind_ok hz
 obtain ⟨l148, hr147, hz⟩ := bind_ok hz
 obtain ⟨x151, hx152, hz⟩ := bind_ok hz
 obtain ⟨a153, hx154, hz⟩ := bind_ok hz
 obtain ⟨d155, hd150, hz⟩ := bind_ok hz
 obtain ⟨x162, hx163, hz⟩ := bind_ok hz
 obtain ⟨a164, hx165, hz⟩ := bind_ok hz
 obtain ⟨d166, hd161, hz⟩ := bind_ok hz
 refine WB_two (i := 7) (j := 18) (by kernel_rfl) rfl rfl (O_bslice (α := Int) (l := ([y58] : List Int)) [.int .i64 y58] tl27 (bpc rfl bp0) rfl rfl (by decide) (by decide) (by decide) hS (brc (ri y58 : rep M48 _ _) br0) ?_) (O_bslice (α := Int) (l := ([x137] : List Int)) [.int .i64 x137] tl27 (bpc rfl bp0) rfl rfl (by decide) (by decide) (by decide) hS (brc (ri x137 : rep M48 _ _) br0) ?_)
 intro v140 M140 w139 hx140 hv140 hS
 replace zb8 := Rep.mono hx140.1 zb8
 replace hv45 := repL.mono hx140.1 hv45
 replace hb83 := Rep.mono hx140.1 hb83
 replace hb104 := Rep.mono hx140.1 hb104
 replace hv131 := repL.mono hx140.1 hv131
 replace hv134 := repL.mono hx140.1 hv134
 replace hE := Mm.ext.trans hE hx140
 replace hF61 := Mm.ext.trans hF61 hx140
 replace hF76 := Mm.ext.trans hF76 hx140
 replace hF125 := Mm.ext.trans hF125 hx140
 replace hG127 := Mm.ext.trans hG127 hx140
 have hR171 : Rd M48 [.box b81 cs83 78, .box b6 cs104 48] w139 := Rd.of hS hG127 (by simp)
 refine ⟨fun _ => hR171, ?_⟩
 obtain ⟨hy142, hs142⟩ := app_some hr142
 refine WB_two (i := 8) (j := 18) (by kernel_rfl) rfl rfl (O_app (α := Int) (j := 2) tp27 hS rfl rfl rfl hv131 hv140 hy142 ?_) (O_bslice (α := Int) (l := ([x137] : List Int)) [.int .i64 x137] tl27 (bpc rfl bp0) rfl rfl (by decide) (by decide) (by decide) hS (brc (ri x137 : rep M140 _ _) br0) ?_)
 intro v142 M142 w141 hx142 hv142 hS
 rw [← hs142] at hv142
 clear hr142 hs142
 replace zb8 := Rep.mono hx142.1 zb8
 replace hv45 := repL.mono hx142.1 hv45
 replace hb83 := Rep.mono hx142.1 hb83
 replace hb104 := Rep.mono hx142.1 hb104
 replace hv131 := repL.mono hx142.1 hv131
 replace hv134 := repL.mono hx142.1 hv134
 replace hv140 := repL.mono hx142.1 hv140
 replace hE := Mm.ext.trans hE hx142
 replace hF61 := Mm.ext.trans hF61 hx142
 replace hF76 := Mm.ext.trans hF76 hx142
 replace hF125 := Mm.ext.trans hF125 hx142
 replace hG127 := Mm.ext.trans hG127 hx142
 have hR172 : Rd M48 [.box b81 cs83 78, .box b6 cs104 48] w141 := Rd.of hS hG127 (by simp)
 refine ⟨fun _ => hR172, ?_⟩
 refine WB_one (i := 18) (by kernel_rfl) rfl (O_bslice (α := Int) (l := ([x137] : List Int)) [.int .i64 x137] tl27 (bpc rfl bp0) rfl rfl (by decide) (by decide) (by decide) hS (brc (ri x137 : rep M142 _ _) br0) ?_)
 intro v145 M145 w144 hx145 hv145 hS
 replace zb8 := Rep.mono hx145.1 zb8
 replace hv45 := repL.mono hx145.1 hv45
 replace hb83 := Rep.mono hx145.1 hb83
 replace hb104 := Rep.mono hx145.1 hb104
 replace hv131 := repL.mono hx145.1 hv131
 replace hv134 := repL.mono hx145.1 hv134
 replace hv140 := repL.mono hx145.1 hv140
 replace hv142 := repL.mono hx145.1 hv142
 replace hE := Mm.ext.trans hE hx145
 replace hF61 := Mm.ext.trans hF61 hx145
 replace hF76 := Mm.ext.trans hF76 hx145
 replace hF125 := Mm.ext.trans hF125 hx145
 replace hG127 := Mm.ext.trans hG127 hx145
 have hR173 : Rd M48 [.box b81 cs83 78, .box b6 cs104 48] w144 := Rd.of hS hG127 (by simp)
 refine ⟨fun _ => hR173, ?_⟩
 obtain ⟨hy147, hs147⟩ := app_some hr147
 refine WB_one (i := 19) (by kernel_rfl) rfl (O_app (α := Int) (j := 1) tp27 hS rfl rfl rfl hv134 hv145 hy147 ?_)
 intro v147 M147 w146 hx147 hv147 hS
 rw [← hs147] at hv147
 clear hr147 hs147
 replace zb8 := Rep.mono hx147.1 zb8
 replace hv45 := repL.mono hx147.1 hv45
 replace hb83 := Rep.mono hx147.1 hb83
 replace hb104 := Rep.mono hx147.1 hb104
 replace hv131 := repL.mono hx147.1 hv131
 replace hv134 := repL.mono hx147.1 hv134
 replace hv140 := repL.mono hx147.1 hv140
 replace hv142 := repL.mono hx147.1 hv142
 replace hv145 := repL.mono hx147.1 hv145
 replace hE := Mm.ext.trans hE hx147
 replace hF61 := Mm.ext.trans hF61 hx147
 replace hF76 := Mm.ext.trans hF76 hx147
 replace hF125 := Mm.ext.trans hF125 hx147
 replace hG127 := Mm.ext.trans hG127 hx147
 have hR174 : Rd M48 [.box b81 cs83 78, .box b6 cs104 48] w146 := Rd.of hS hG127 (by simp)
 refine ⟨fun _ => hR174, ?_⟩
 refine WB_y (i := 20) rfl (by kernel_rfl) rfl (Y_nil rfl) (fun _ => hR174) <|WB_y (i := 21) rfl (by kernel_rfl) rfl (Y_fa fa44_4 rfl) (fun _ => hR174) ?_
 have hq158 := (idxV_some hx152)
 refine WB_one (i := 22) (by kernel_rfl) rfl (O_sx 4 1 hS rfl hb104 rfl rfl (repL_rep hv142) (repL_cells hv142) rfl (GNode.u0 (rr hb104) (vu (k := 6) rfl rfl (GNode.p0 (rr hb104)) (GEntry.u4 (vp (k := 6) rfl rfl (GNode.p0 (rr hb104)) hx152) (Lf (GEntry.p4 (vp (k := 6) rfl rfl (GNode.p0 (rr hb104)) hx152)) (repL_rep hv142))) hx154)) hd150 ?_)
 intro cs150 w149 hb150 ha150 hs150 hS
 have hp156 := (ha150 (by omega)).trans hp110
 have hp157 := (ha150 (by omega)).trans hp112
 have hp159 := hs150
 refine ⟨fun h => Bool.noConfusion (show false = true from h), ?_⟩
 refine WB_y (i := 23) rfl (by kernel_rfl) rfl (Y_nil rfl) (fun h => Bool.noConfusion (show false = true from h)) <|WB_y (i := 24) rfl (by kernel_rfl) rfl (Y_fa fa44_5 rfl) (fun h => Bool.noConfusion (show false = true from h)) ?_
 have hq169 := (idxV_some hx163)
 refine WB_one (i := 25) (by kernel_rfl) rfl (O_sx 4 1 hS rfl hb150 rfl rfl (repL_rep hv147) (repL_cells hv147) rfl (GNode.u0 (rr hb150) (vu (k := 6) rfl rfl (GNode.p0 (rr hb150)) (GEntry.u5 (vp (k := 6) rfl rfl (GNode.p0 (rr hb150)) hx163) (Lf (GEntry.p5 (vp (k := 6) rfl rfl (GNode.p0 (rr hb150)) hx163)) (repL_rep hv147))) hx165)) hd161 ?_)
 intro cs161 w160 hb161 ha161 hs161 hS
 have hp167 := (ha161 (by omega)).trans hp156
 have hp168 := (ha161 (by omega)).trans hp159
 have hp170 := hs161
 refine ⟨fun h => Bool.noConfusion (show false = true from h), ?_⟩
 refine WB_done (by kernel_rfl) (nm_then ?_)
 exact ⟨M147, cs161, d166, v142, v147, hF125, hS, hb161, hp167, hp168, hp170, hT49_1, hT49_2, hT49_3, hT49_6, hT49_7, hT49_25, hT49_26, hT49_27, hz⟩
 intro v145 M145 w144 hx145 hv145 hS
 replace zb8 := Rep.mono hx145.1 zb8
 replace hv45 := repL.mono hx145.1 hv45
 replace hb83 := Rep.mono hx145.1 hb83
 replace hb104 := Rep.mono hx145.1 hb104
 replace hv131 := repL.mono hx145.1 hv131
 replace hv134 := repL.mono hx145.1 hv134
 replace hv140 := repL.mono hx145.1 hv140
 replace hE := Mm.ext.trans hE hx145
 replace hF61 := Mm.ext.trans hF61 hx145
 replace hF76 := Mm.ext.trans hF76 hx145
 replace hF125 := Mm.ext.trans hF125 hx145
 replace hG127 := Mm.ext.trans hG127 hx145
 have hR175 : Rd M48 [.box b81 cs83 78, .box b6 cs104 48] w144 := Rd.of hS hG127 (by simp)
 refine ⟨fun _ => hR175, ?_⟩
 obtain ⟨hy142, hs142⟩ := app_some hr142
 refine WB_one (i := 8) (by kernel_rfl) rfl (O_app (α := Int) (j := 2) tp27 hS rfl rfl rfl hv131 hv140 hy142 ?_)
 intro v142 M142 w141 hx142 hv142 hS
 rw [← hs142] at hv142
 clear hr142 hs142
 replace zb8 := Rep.mono hx142.1 zb8
 replace hv45 := repL.mono hx142.1 hv45
 replace hb83 := Rep.mono hx142.1 hb83
 replace hb104 := Rep.mono hx142.1 hb104
 replace hv131 := repL.mono hx142.1 hv131
 replace hv134 := repL.mono hx142.1 hv134
 replace hv140 := repL.mono hx142.1 hv140
 replace hv145 := repL.mono hx142.1 hv145
 replace hE := Mm.ext.trans hE hx142
 replace hF61 := Mm.ext.trans hF61 hx142
 replace hF76 := Mm.ext.trans hF76 hx142
 replace hF125 := Mm.ext.trans hF125 hx142
 replace hG127 := Mm.ext.trans hG127 hx142
 have hR176 : Rd M48 [.box b81 cs83 78, .box b6 cs104 48] w141 := Rd.of hS hG127 (by simp)
 refine ⟨fun _ => hR176, ?_⟩
 obtain ⟨hy147, hs147⟩ := app_some hr147
 refine WB_one (i := 19) (by kernel_rfl) rfl (O_app (α := Int) (j := 1) tp27 hS rfl rfl rfl hv134 hv145 hy147 ?_)
 intro v147 M147 w146 hx147 hv147 hS
 rw [← hs147] at hv147
 clear hr147 hs147
 replace zb8 := Rep.mono hx147.1 zb8
 replace hv45 := repL.mono hx147.1 hv45
 replace hb83 := Rep.mono hx147.1 hb83
 replace hb104 := Rep.mono hx147.1 hb104
 replace hv131 := repL.mono hx147.1 hv131
 replace hv134 := repL.mono hx147.1 hv134
 replace hv140 := repL.mono hx147.1 hv140
 replace hv145 := repL.mono hx147.1 hv145
 replace hv142 := repL.mono hx147.1 hv142
 replace hE := Mm.ext.trans hE hx147
 replace hF61 := Mm.ext.trans hF61 hx147
 replace hF76 := Mm.ext.trans hF76 hx147
 replace hF125 := Mm.ext.trans hF125 hx147
 replace hG127 := Mm.ext.trans hG127 hx147
 have hR177 : Rd M48 [.box b81 cs83 78, .box b6 cs104 48] w146 := Rd.of hS hG127 (by simp)
 refine ⟨fun _ => hR177, ?_⟩
 refine WB_y (i := 20) rfl (by kernel_rfl) rfl (Y_nil rfl) (fun _ => hR177) <|WB_y (i := 21) rfl (by kernel_rfl) rfl (Y_fa fa44_4 rfl) (fun _ => hR177) ?_
 have hq158 := (idxV_some hx152)
 refine WB_one (i := 22) (by kernel_rfl) rfl (O_sx 4 1 hS rfl hb104 rfl rfl (repL_rep hv142) (repL_cells hv142) rfl (GNode.u0 (rr hb104) (vu (k := 6) rfl rfl (GNode.p0 (rr hb104)) (GEntry.u4 (vp (k := 6) rfl rfl (GNode.p0 (rr hb104)) hx152) (Lf (GEntry.p4 (vp (k := 6) rfl rfl (GNode.p0 (rr hb104)) hx152)) (repL_rep hv142))) hx154)) hd150 ?_)
 intro cs150 w149 hb150 ha150 hs150 hS
 have hp156 := (ha150 (by omega)).trans hp110
 have hp157 := (ha150 (by omega)).trans hp112
 have hp159 := hs150
 refine ⟨fun h => Bool.noConfusion (show false = true from h), ?_⟩
 refine WB_y (i := 23) rfl (by kernel_rfl) rfl (Y_nil rfl) (fun h => Bool.noConfusion (show false = true from h)) <|WB_y (i := 24) rfl (by kernel_rfl) rfl (Y_fa fa44_5 rfl) (fun h => Bool.noConfusion (show false = true from h)) ?_
 have hq169 := (idxV_some hx163)
 refine WB_one (i := 25) (by kernel_rfl) rfl (O_sx 4 1 hS rfl hb150 rfl rfl (repL_rep hv147) (repL_cells hv147) rfl (GNode.u0 (rr hb150) (vu (k := 6) rfl rfl (GNode.p0 (rr hb150)) (GEntry.u5 (vp (k := 6) rfl rfl (GNode.p0 (rr hb150)) hx163) (Lf (GEntry.p5 (vp (k := 6) rfl rfl (GNode.p0 (rr hb150)) hx163)) (repL_rep hv147))) hx165)) hd161 ?_)
 intro cs161 w160 hb161 ha161 hs161 hS
 have hp167 := (ha161 (by omega)).trans hp156
 have hp168 := (ha161 (by omega)).trans hp159
 have hp170 := hs161
 refine ⟨fun h => Bool.noConfusion (show false = true from h), ?_⟩
 refine WB_done (by kernel_rfl) (nm_then ?_)
 exact ⟨M147, cs161, d166, v142, v147, hF125, hS, hb161, hp167, hp168, hp170, hT49_1, hT49_2, hT49_3, hT49_6, hT49_7, hT49_25, hT49_26, hT49_27, hz⟩
 intro v145 M145 w144 hx145 hv145 hS
 replace zb8 := Rep.mono hx145.1 zb8
 replace hv45 := repL.mono hx145.1 hv45
 replace hb83 := Rep.mono hx145.1 hb83
 replace hb104 := Rep.mono hx145.1 hb104
 replace hv131 := repL.mono hx145.1 hv131
 replace hv134 := repL.mono hx145.1 hv134
 replace hE := Mm.ext.trans hE hx145
 replace hF61 := Mm.ext.trans hF61 hx145
 replace hF76 := Mm.ext.trans hF76 hx145
 replace hF125 := Mm.ext.trans hF125 hx145
 replace hG127 := Mm.ext.trans hG127 hx145
 have hR178 : Rd M48 [.box b81 cs83 78, .box b6 cs104 48] w144 := Rd.of hS hG127 (by simp)
 refine ⟨fun _ => hR178, ?_⟩
 refine WB_one (i := 7) (by kernel_rfl) rfl (O_bslice (α := Int) (l := ([y58] : List Int)) [.int .i64 y58] tl27 (bpc rfl bp0) rfl rfl (by decide) (by decide) (by decide) hS (brc (ri y58 : rep M145 _ _) br0) ?_)
 intro v140 M140 w139 hx140 hv140 hS
 replace zb8 := Rep.mono hx140.1 zb8
 replace hv45 := repL.mono hx140.1 hv45
 replace hb83 := Rep.mono hx140.1 hb83
 replace hb104 := Rep.mono hx140.1 hb104
 replace hv131 := repL.mono hx140.1 hv131
 replace hv134 := repL.mono hx140.1 hv134
 replace hv145 := repL.mono hx140.1 hv145
 replace hE := Mm.ext.trans hE hx140
 replace hF61 := Mm.ext.trans hF61 hx140
 replace hF76 := Mm.ext.trans hF76 hx140
 replace hF125 := Mm.ext.trans hF125 hx140
 replace hG127 := Mm.ext.trans hG127 hx140
 have hR179 : Rd M48 [.box b81 cs83 78, .box b6 cs104 48] w139 := Rd.of hS hG127 (by simp)
 refine ⟨fun _ => hR179, ?_⟩
 obtain ⟨hy142, hs142⟩ := app_some hr142
 refine WB_one (i := 8) (by kernel_rfl) rfl (O_app (α := Int) (j := 2) tp27 hS rfl rfl rfl hv131 hv140 hy142 ?_)
 intro v142 M142 w141 hx142 hv142 hS
 rw [← hs142] at hv142
 clear hr142 hs142
 replace zb8 := Rep.mono hx142.1 zb8
 replace hv45 := repL.mono hx142.1 hv45
 replace hb83 := Rep.mono hx142.1 hb83
 replace hb104 := Rep.mono hx142.1 hb104
 replace hv131 := repL.mono hx142.1 hv131
 replace hv134 := repL.mono hx142.1 hv134
 replace hv145 := repL.mono hx142.1 hv145
 replace hv140 := repL.mono hx142.1 hv140
 replace hE := Mm.ext.trans hE hx142
 replace hF61 := Mm.ext.trans hF61 hx142
 replace hF76 := Mm.ext.trans hF76 hx142
 replace hF125 := Mm.ext.trans hF125 hx142
 replace hG127 := Mm.ext.trans hG127 hx142
 have hR180 : Rd M48 [.box b81 cs83 78, .box b6 cs104 48] w141 := Rd.of hS hG127 (by simp)
 refine ⟨fun _ => hR180, ?_⟩
 obtain ⟨hy147, hs147⟩ := app_some hr147
 refine WB_one (i := 19) (by kernel_rfl) rfl (O_app (α := Int) (j := 1) tp27 hS rfl rfl rfl hv134 hv145 hy147 ?_)
 intro v147 M147 w146 hx147 hv147 hS
 rw [← hs147] at hv147
 clear hr147 hs147
 replace zb8 := Rep.mono hx147.1 zb8
 replace hv45 := repL.mono hx147.1 hv45
 replace hb83 := Rep.mono hx147.1 hb83
 replace hb104 := Rep.mono hx147.1 hb104
 replace hv131 := repL.mono hx147.1 hv131
 replace hv134 := repL.mono hx147.1 hv134
 replace hv145 := repL.mono hx147.1 hv145
 replace hv140 := repL.mono hx147.1 hv140
 replace hv142 := repL.mono hx147.1 hv142
 replace hE := Mm.ext.trans hE hx147
 replace hF61 := Mm.ext.trans hF61 hx147
 replace hF76 := Mm.ext.trans hF76 hx147
 replace hF125 := Mm.ext.trans hF125 hx147
 replace hG127 := Mm.ext.trans hG127 hx147
 have hR181 : Rd M48 [.box b81 cs83 78, .box b6 cs104 48] w146 := Rd.of hS hG127 (by simp)
 refine ⟨fun _ => hR181, ?_⟩
 refine WB_y (i := 20) rfl (by kernel_rfl) rfl (Y_nil rfl) (fun _ => hR181) <|WB_y (i := 21) rfl (by kernel_rfl) rfl (Y_fa fa44_4 rfl) (fun _ => hR181) ?_
 have hq158 := (idxV_some hx152)
 refine WB_one (i := 22) (by kernel_rfl) rfl (O_sx 4 1 hS rfl hb104 rfl rfl (repL_rep hv142) (repL_cells hv142) rfl (GNode.u0 (rr hb104) (vu (k := 6) rfl rfl (GNode.p0 (rr hb104)) (GEntry.u4 (vp (k := 6) rfl rfl (GNode.p0 (rr hb104)) hx152) (Lf (GEntry.p4 (vp (k := 6) rfl rfl (GNode.p0 (rr hb104)) hx152)) (repL_rep hv142))) hx154)) hd150 ?_)
 intro cs150 w149 hb150 ha150 hs150 hS
 have hp156 := (ha150 (by omega)).trans hp110
 have hp157 := (ha150 (by omega)).trans hp112
 have hp159 := hs150
 refine ⟨fun h => Bool.noConfusion (show false = true from h), ?_⟩
 refine WB_y (i := 23) rfl (by kernel_rfl) rfl (Y_nil rfl) (fun h => Bool.noConfusion (show false = true from h)) <|WB_y (i := 24) rfl (by kernel_rfl) rfl (Y_fa fa44_5 rfl) (fun h => Bool.noConfusion (show false = true from h)) ?_
 have hq169 := (idxV_some hx163)
 refine WB_one (i := 25) (by kernel_rfl) rfl (O_sx 4 1 hS rfl hb150 rfl rfl (repL_rep hv147) (repL_cells hv147) rfl (GNode.u0 (rr hb150) (vu (k := 6) rfl rfl (GNode.p0 (rr hb150)) (GEntry.u5 (vp (k := 6) rfl rfl (GNode.p0 (rr hb150)) hx163) (Lf (GEntry.p5 (vp (k := 6) rfl rfl (GNode.p0 (rr hb150)) hx163)) (repL_rep hv147))) hx165)) hd161 ?_)
 intro cs161 w160 hb161 ha161 hs161 hS
 have hp167 := (ha161 (by omega)).trans hp156
 have hp168 := (ha161 (by omega)).trans hp159
 have hp170 := hs161
 refine ⟨fun h => Bool.noConfusion (show false = true from h), ?_⟩
 refine WB_done (by kernel_rfl) (nm_then ?_)
 exact ⟨M147, cs161, d166, v142, v147, hF125, hS, hb161, hp167, hp168, hp170, hT49_1, hT49_2, hT49_3, hT49_6, hT49_7, hT49_25, hT49_26, hT49_27, hz⟩
 rintro T116 w114 ⟨M115, cs117, d118, v120, v122, hx124, hS, hb117, hp119, hp121, hp123, hT116_1, hT116_2, hT116_3, hT116_6, hT116_7, hT116_25, hT116_26, hT116_27, hz⟩
 replace zb8 := Rep.mono hx124.1 zb8
 replace hv45 := repL.mono hx124.1 hv45
 replace hb83 := Rep.mono hx124.1 hb83
 replace hE := Mm.ext.trans hE hx124
 replace hF61 := Mm.ext.trans hF61 hx124
 replace hF76 := Mm.ext.trans hF76 hx124
 rw [nodeOne_j2] at hz
 refine (nm_blk ?_)
 refine (nm_then ?_)
 exact ⟨M115, cs117, d118, v52, v120, v122, hF76, (St.dropB hS hb81), hb117, hp119, hp121, hp123, hT116_1, hT116_2, hT116_3, hT116_6, hT116_7, hT116_25, hT116_26, hT116_27, hz⟩
 replace hz := bif_ok_f hz hc88
 refine W_skip (nm_blk ?_)
 refine (nm_then ?_)
 exact ⟨M48, cs50, d51, v52, v54, v56, hF76, (St.dropB hS hb81), hb50, hp53, hp55, hp57, hT49_1, hT49_2, hT49_3, hT49_6, hT49_7, hT49_25, hT49_26, hT49_27, hz⟩
 rintro T66 w64 ⟨M65, cs67, d68, v69, v71, v73, hx75, hS, hb67, hp70, hp72, hp74, hT66_1, hT66_2, hT66_3, hT66_6, hT66_7, hT66_25, hT66_26, hT66_27, hz⟩
 replace zb8 := Rep.mono hx75.1 zb8
 replace hv45 := repL.mono hx75.1 hv45
 replace hE := Mm.ext.trans hE hx75
 replace hF61 := Mm.ext.trans hF61 hx75
 rw [nodeOne_j1] at hz
 refine W_reg <|WL_y (Y_add hT66_27 rfl) <|WL_y (Y_move (.int .i64 (IntKind.wrap .i64 (y58 + 1))) rfl) ?_
 refine WL_nil (nm_then ?_)
 exact ⟨M65, cs67, d68, v69, v71, v73, (IntKind.wrap .i64 (y58 + 1)), hF61, hS, hb67, hp70, hp72, hp74, hT66_1, hT66_2, hT66_3, hT66_6, hT66_7, hT66_25, hT66_26, rfl, (by rw [← hrec59]; exact hz)⟩
 replace hz := bif_ok_f hz hc63
 refine W_exit <|ex_then <|ex_then <|ex_hit ?_
 refine (nm_then ?_)
 refine W_seq <|W_reg <|WL_y (Y_fa fa48_1 hT49_3) ?_
 obtain ⟨v182, ev182, hv182⟩ := (GNode.p1 (rr hb50))
 rw [sl_one_eq ev182 hp53] at hv182
 refine WL_y (Y_ld1 v52 ts27 rfl (hS.bvB 3 rfl) hp53) <|WL_y (Y_move (.int .i64 x3) hT49_1) ?_
 refine WL_c (O_bslice (α := Int) (l := ([x3] : List Int)) [.int .i64 x3] tl27 (bpc rfl bp0) rfl rfl (by decide) (by decide) (by decide) hS (brc (ri x3 : rep M48 _ _) br0) ?_)
 intro v184 M184 w183 hx184 hv184 hS
 replace zb8 := Rep.mono hx184.1 zb8
 replace hb50 := Rep.mono hx184.1 hb50
 replace hv182 := repL.mono hx184.1 hv182
 replace hE := Mm.ext.trans hE hx184
 replace hF61 := Mm.ext.trans hF61 hx184
 obtain ⟨l187, hr186, hz⟩ := bind_ok hz
 obtain ⟨hy186, hs186⟩ := app_some hr186
 refine WL_c (O_app (α := Int) (j := 4) tp27 hS rfl rfl rfl hv182 hv184 hy186 ?_)
 intro v186 M186 w185 hx186 hv186 hS
 rw [← hs186] at hv186
 clear hr186 hs186
 replace zb8 := Rep.mono hx186.1 zb8
 replace hb50 := Rep.mono hx186.1 hb50
 replace hv182 := repL.mono hx186.1 hv182
 replace hv184 := repL.mono hx186.1 hv184
 replace hE := Mm.ext.trans hE hx186
 replace hF61 := Mm.ext.trans hF61 hx186
 refine WL_y (Y_fa fa48_1 hT49_3) ?_
 obtain ⟨d190, hd189, hz⟩ := bind_ok hz
 refine WL_c (O_sx 3 1 hS rfl hb50 rfl rfl (repL_rep hv186) (repL_cells hv186) rfl (GNode.u1 (rr hb50) (Lf (GNode.p1 (rr hb50)) (repL_rep hv186))) hd189 ?_)
 intro cs189 w188 hb189 ha189 hs189 hS
 have hp191 := (ha189 (by omega)).trans hp55
 have hp192 := (ha189 (by omega)).trans hp57
 have hp193 := hs189
 refine WL_nil (nm_then ?_)
 refine W_seq <|W_reg ?_
 have ha194 := (rr hb189)
 have hp195 : sl (sl cs189 (0) 201) 192 1 = [v186] := (sl_sub (by decide)).trans hp193
 refine WL_y (Y_ldn ta48 hT49_3 (hS.bvB 3 rfl) (Rep.len ha194)) ?_
 obtain ⟨d198, hd197, hz⟩ := bind_ok hz
 refine WL_c (O_sx 2 201 hS rfl zb8 hT49_6 rfl ha194 rfl rfl (Lf (rr zb8) ha194) hd197 ?_)
 intro cs197 w196 hb197 ha197 hs197 hS
 have hp199 : sl cs197 (0 + 192) 1 = [v186] := sl_in hs197 hp195 (by decide)
 refine WL_nil (nm_then ?_)
 cases hz
 exact W_ret (R_c (j := 2) rfl hT49_6 (by rw [Rep.len hb197]; exact ta48) hS rfl ⟨_, M186, _, rfl, hE, (hS.sel (H' := [.row v186 3 1]) [4] (by decide) rfl), cs197, v186, rfl, rfl, hb197, hp199⟩)
def nodeExec_j1 (y32 : Int) (rec33 : GNode → Int → Option GNode) (d42 : GNode) : Option GNode :=
 rec33 d42 (IntKind.wrap .i64 (y32 + 1))
def nodeExec_j2 (y64 : Int) (rec65 : GNode → Int → Option GNode) (d74 : GNode) : Option GNode :=
 rec65 d74 (IntKind.wrap .i64 (y64 + 1))
def nodeExec_l2 (fu : Nat) (x2 : Int) (y32 : Int) (rec33 : GNode → Int → Option GNode) (r55 : (List Int)) : Nat → GNode → Int → Option GNode
 | 0, _, _ => none
 | n + 1, d61, y64 =>
 (bif decide (y64 < (r55.length : Int)) then
 (idx r55 y64).bind fun x80 =>
 (inR x80 32).bind fun _ =>
 (idxV d61.entries x80).bind fun x83 =>
 (bif x83.state == 2 then
 (nodeOneD fu d61 x80 x2).bind fun r90 =>
 (some r90).bind fun d93 =>
 nodeExec_j2 y64 (nodeExec_l2 fu x2 y32 rec33 r55 n) d93
 else
 nodeExec_j2 y64 (nodeExec_l2 fu x2 y32 rec33 r55 n) d61)
 else
 nodeExec_j1 y32 rec33 d61)
def nodeExec_l1 (fu : Nat) (x2 : Int) (d15 : GGraph) : Nat → GNode → Int → Option GNode
 | 0, _, _ => none
 | n + 1, d29, y32 =>
 (bif decide (y32 < 32) then
 (inR y32 32).bind fun _ =>
 (idxV d29.entries y32).bind fun x49 =>
 (bif x49.state != 2 then
 nodeExec_j1 y32 (nodeExec_l1 fu x2 d15 n) d29
 else
 (gorderD fu d15 y32).bind fun r55 =>
 nodeExec_l2 fu x2 y32 (nodeExec_l1 fu x2 d15 n) r55 fu d29 0)
 else
 (some d29).bind fun d99 =>
 some d99)
def nodeExecD (fu : Nat) (x1 : GNode) (x2 : Int) : Option GNode :=
 (nodeGraphD fu x1).bind fun r10 =>
 (some r10).bind fun d15 =>
 (cloneIntsD fu x1.order).bind fun r19 =>
 (some ({ x1 with order := r19 } : GNode)).bind fun d23 =>
 nodeExec_l1 fu x2 d15 fu d23 0
set_option maxRecDepth 100000 in
set_option maxHeartbeats 4000000 in
theorem nodeExec_ok {M : Mm} {w : World} {cx1 : List Value} {x1 : GNode} {x2 : Int} {fu : Nat} {r : GNode} (hA : Agree M w) (hcx1 : rep M cx1 x1) (hz : nodeExecD fu x1 x2 = some r) :
    Calls Try.prog 53 #[.agg cx1.toArray, .int .i64 x2] w (Gives M w (fun M' u => ∃ cs, u = .agg cs.toArray ∧ rep M' cs r)) := by
 refine calls_W Try.func53 rfl 45 rfl rfl (by kernel_rfl) fun T hT => ?_
 have hT_0 : T 0 = .agg cx1.toArray := hT 0
 have hT_1 : T 1 = .int .i64 x2 := hT 1
 clear hT
 have hE := Mm.ext.refl w.heap.size noX M
 have hS : St w noX M [] w := St.start hA
 rw [nodeExecD] at hz
 refine W_seq <|W_reg ?_
 refine WL_c (O_box (v := .agg cx1.toArray) (cs := cx1) hT_0 rfl hS ?_)
 intro b4 w3 hb4 hS
 refine WL_c (O_alloc tz48 hS ?_)
 intro b6 w5 hb6 hS
 have zb6 : rep M (Zr.zc GNode) (Zr.zd : GNode) := Zr.zr
 refine WL_nil (nm_then ?_)
 refine W_seq <|W_reg ?_
 have ha7 := (rr hcx1)
 refine WL_y (Y_ldn ta48 rfl (hS.bvB 1 rfl) (Rep.len ha7)) ?_
 obtain ⟨r10, hr9, hz⟩ := bind_ok hz
 refine WL_c (O_mem (vs := [.agg (sl cx1 (0) 201).toArray]) (rv := (fun M' u => ∃ cs, u = .agg cs.toArray ∧ rep M' cs r10)) cb31 (args1 rfl) hS (nodeGraph_ok hS.agree ha7 hr9) ?_)
 intro u9 M9 w8 hx9 hu9 hS
 obtain ⟨c9, hq9, f9⟩ := hu9
 subst hq9
 replace hcx1 := Rep.mono hx9.1 hcx1
 replace zb6 := Rep.mono hx9.1 zb6
 replace ha7 := Rep.mono hx9.1 ha7
 replace hE := Mm.ext.trans hE hx9
 refine WL_c (O_alloc tz64 hS ?_)
 intro b12 w11 hb12 hS
 have zb12 : rep M9 (Zr.zc GGraph) (Zr.zd : GGraph) := Zr.zr
 obtain ⟨d15, hd14, hz⟩ := bind_ok hz
 refine WL_c (O_sx 0 64 hS rfl zb12 rfl rfl f9 rfl rfl (Lf (rr zb12) f9) hd14 ?_)
 intro cs14 w13 hb14 ha14 hs14 hS
 refine WL_nil (nm_then ?_)
 refine W_seq <|W_reg <|WL_y (Y_fa fa48_1 rfl) ?_
 obtain ⟨v16, ev16, hv16⟩ := (GNode.p1 (rr hcx1))
 refine WL_y (Y_ld1 v16 ts27 rfl (hS.bvB 2 rfl) ev16) ?_
 obtain ⟨r19, hr18, hz⟩ := bind_ok hz
 refine WL_c (O_lend (vs := [v16]) (L := []) (R := [.box b12 cs14 64, .box b6 (Zr.zc GNode) 48, .box b4 cx1 48]) (rv := (fun M' u L' => ∃ v0, u = v0 ∧ L' = [.row v0 3 1] ∧ repL M' v0 r19)) cb50 (args1 rfl) hS (hS.sel [0, 1, 2] (by decide) rfl) (fun hS => cloneInts_ok hS.agree hv16 hr18) ?_)
 rintro u18 M18 w17 L18 hx18 ⟨v0_18, rfl, hL18, f18_0⟩ hS
 replace hS := hS _ hL18
 replace hcx1 := Rep.mono hx18.1 hcx1
 replace zb6 := Rep.mono hx18.1 zb6
 replace hb14 := Rep.mono hx18.1 hb14
 replace hv16 := repL.mono hx18.1 hv16
 replace hE := Mm.ext.trans hE hx18
 refine WL_y (Y_fa fa48_1 rfl) ?_
 obtain ⟨d23, hd22, hz⟩ := bind_ok hz
 refine WL_c (O_sx 3 1 hS rfl hcx1 rfl rfl (repL_rep f18_0) (repL_cells f18_0) rfl (GNode.u1 (rr hcx1) (Lf (GNode.p1 (rr hcx1)) (repL_rep f18_0))) hd22 ?_)
 intro cs22 w21 hb22 ha22 hs22 hS
 have hp24 := hs22
 refine WL_nil (nm_then ?_)
 refine W_seq <|W_seq <|W_reg <|WL_y (Y_move (.int .i64 0) rfl) ?_
 refine WL_nil (nm_then ?_)
 refine W_block ?_
 refine W_loop (fun k34 T' w' => ∃ M26 cs28 d29 v30 y32, Mm.ext w.heap.size noX M18 M26 ∧ St w noX M26 [.row v30 3 1, .box b12 cs14 64, .box b6 (Zr.zc GNode) 48, .box b4 cs28 48] w' ∧ rep M26 cs28 d29 ∧ sl cs28 (0 + 192) 1 = [v30] ∧ T' 1 = .int .i64 x2 ∧ T' 2 = .pointer (some ⟨b4, 0, none⟩) ∧ T' 4 = .pointer (some ⟨b6, 0, none⟩) ∧ T' 5 = .pointer (some ⟨b12, 0, none⟩) ∧ T' 15 = .int .i64 y32 ∧ nodeExec_l1 fu x2 d15 k34 d29 y32 = some r) fu ?_ ?_ ?_
 exact ⟨M18, cs22, d23, u18, (0 : Int), (Mm.ext.refl _ _ _), hS, hb22, hp24, hT_1, rfl, rfl, rfl, rfl, hz⟩
 rintro T' w' ⟨_, _, _, _, _, _, _, _, _, _, _, _, _, _, hz⟩
 rw [nodeExec_l1] at hz
 cases hz
 intro k34
 rintro T27 w25 ⟨M26, cs28, d29, v30, y32, hx36, hS, hb28, hp31, hT27_1, hT27_2, hT27_4, hT27_5, hT27_15, hz⟩
 replace zb6 := Rep.mono hx36.1 zb6
 replace hb14 := Rep.mono hx36.1 hb14
 replace hE := Mm.ext.trans hE hx36
 have hF35 := hx36
 rw [nodeExec_l1] at hz
 obtain ⟨rec33, hrec33⟩ : ∃ f, f = nodeExec_l1 fu x2 d15 k34 := ⟨_, rfl⟩
 rw [← hrec33] at hz
 refine W_seq <|W_reg <|WL_y (Y_lss hT27_15 rfl) ?_
 refine WL_nil (nm_then ?_)
 refine W_seq ?_
 refine W_cond rfl (fun hc37 => ?_) (fun hc37 => ?_)
 replace hz := bif_ok_t hz hc37
 refine W_skip (nm_then ?_)
 refine W_seqJ (fun T' w' => ∃ M39 cs41 d42 v43, Mm.ext w.heap.size noX M26 M39 ∧ St w noX M39 [.row v43 3 1, .box b12 cs14 64, .box b6 (Zr.zc GNode) 48, .box b4 cs41 48] w' ∧ rep M39 cs41 d42 ∧ sl cs41 (0 + 192) 1 = [v43] ∧ T' 1 = .int .i64 x2 ∧ T' 2 = .pointer (some ⟨b4, 0, none⟩) ∧ T' 4 = .pointer (some ⟨b6, 0, none⟩) ∧ T' 5 = .pointer (some ⟨b12, 0, none⟩) ∧ T' 15 = .int .i64 y32 ∧ nodeExec_j1 y32 rec33 d42 = some r) ?_ ?_
 have hF46 := Mm.ext.refl w.heap.size noX M26
 refine W_block <|W_seq <|W_reg <|WL_y (Y_move (.int .i64 y32) hT27_15) <|WL_y (Y_assign (.int .i64 y32) rfl) ?_
 refine WL_nil (nm_then ?_)
 refine W_seq <|W_seq <|W_reg <|WL_y (Y_move (.int .i64 y32) rfl) <|WL_y (Y_fa fa48_0 hT27_2) ?_
 obtain ⟨u47, hx48, hz⟩ := bind_ok hz
 obtain ⟨hx48a, hx48b⟩ := inR_some hx48
 refine WL_y (Y_ixA ia45 rfl rfl hx48a hx48b) <|WL_y (Y_fa fa44_0 rfl) ?_
 obtain ⟨x49, hx50, hz⟩ := bind_ok hz
 refine WL_y (Y_ld1 (.int .i64 x49.state) ts3 rfl (hS.bvB 3 rfl) (GEntry.p0 (vp (k := 6) rfl rfl (GNode.p0 (rr hb28)) hx50))) <|WL_y (Y_neq rfl rfl) ?_
 refine WL_nil (nm_then ?_)
 refine W_cond rfl (fun hc51 => ?_) (fun hc51 => ?_)
 replace hz := bif_ok_t hz hc51
 refine W_exit <|ex_then <|ex_hit ?_
 refine (nm_then ?_)
 exact ⟨M26, cs28, d29, v30, hF46, hS, hb28, hp31, hT27_1, hT27_2, hT27_4, hT27_5, hT27_15, hz⟩
 replace hz := bif_ok_f hz hc51
 refine W_skip (nm_then ?_)
 refine W_seq <|W_reg ?_
 have ha52 := (rr hb14)
 refine WL_y (Y_ldn ta64 hT27_5 (hS.bvB 1 rfl) (Rep.len ha52)) <|WL_y (Y_move (.int .i64 y32) rfl) ?_
 obtain ⟨r55, hr54, hz⟩ := bind_ok hz
 refine WL_c (O_mem (vs := [.agg (sl cs14 (0) 64).toArray, .int .i64 y32]) (rv := (fun M' u => repL M' u r55)) cb73 (args2 rfl rfl) hS (gorder_ok hS.agree ha52 hr54) ?_)
 intro u54 M54 w53 hx54 hu54 hS
 have f54 : repL M54 u54 r55 := hu54
 replace zb6 := Rep.mono hx54.1 zb6
 replace hb14 := Rep.mono hx54.1 hb14
 replace hb28 := Rep.mono hx54.1 hb28
 replace ha52 := Rep.mono hx54.1 ha52
 replace hE := Mm.ext.trans hE hx54
 replace hF35 := Mm.ext.trans hF35 hx54
 replace hF46 := Mm.ext.trans hF46 hx54
 obtain ⟨a56, c56, hv56, _⟩ := repL_shape f54
 refine WL_y (Y_lenL Try.underlying27 (tr2 hv56 rfl)) <|WL_y (Y_move (.int .i64 0) rfl) ?_
 refine WL_nil (nm_then ?_)
 refine W_block ?_
 refine W_loop (fun k66 T' w' => ∃ M58 cs60 d61 v62 y64, Mm.ext w.heap.size noX M54 M58 ∧ St w noX M58 [.row v62 3 1, .box b12 cs14 64, .box b6 (Zr.zc GNode) 48, .box b4 cs60 48] w' ∧ rep M58 cs60 d61 ∧ sl cs60 (0 + 192) 1 = [v62] ∧ T' 1 = .int .i64 x2 ∧ T' 2 = .pointer (some ⟨b4, 0, none⟩) ∧ T' 4 = .pointer (some ⟨b6, 0, none⟩) ∧ T' 5 = .pointer (some ⟨b12, 0, none⟩) ∧ T' 15 = .int .i64 y32 ∧ T' 26 = u54 ∧ T' 27 = .int .i64 (r55.length : Int) ∧ T' 28 = .int .i64 y64 ∧ nodeExec_l2 fu x2 y32 rec33 r55 k66 d61 y64 = some r) fu ?_ ?_ ?_
 exact ⟨M54, cs28, d29, v30, (0 : Int), (Mm.ext.refl _ _ _), hS, hb28, hp31, hT27_1, hT27_2, hT27_4, hT27_5, hT27_15, rfl, rfl, rfl, hz⟩
 rintro T' w' ⟨_, _, _, _, _, _, _, _, _, _, _, _, _, _, _, _, _, hz⟩
 rw [nodeExec_l2] at hz
 cases hz
 intro k66
 rintro T59 w57 ⟨M58, cs60, d61, v62, y64, hx68, hS, hb60, hp63, hT59_1, hT59_2, hT59_4, hT59_5, hT59_15, hT59_26, hT59_27, hT59_28, hz⟩
 replace zb6 := Rep.mono hx68.1 zb6
 replace hb14 := Rep.mono hx68.1 hb14
 replace f54 := repL.mono hx68.1 f54
 replace hE := Mm.ext.trans hE hx68
 replace hF35 := Mm.ext.trans hF35 hx68
 replace hF46 := Mm.ext.trans hF46 hx68
 have hF67 := hx68
 rw [nodeExec_l2] at hz
 obtain ⟨rec65, hrec65⟩ : ∃ f, f = nodeExec_l2 fu x2 y32 rec33 r55 k66 := ⟨_, rfl⟩
 rw [← hrec65] at hz
 refine W_seq <|W_reg <|WL_y (Y_lss hT59_28 hT59_27) ?_
 refine WL_nil (nm_then ?_)
 refine W_seq ?_
 refine W_cond rfl (fun hc69 => ?_) (fun hc69 => ?_)
 replace hz := bif_ok_t hz hc69
 refine W_skip (nm_then ?_)
 refine W_seqJ (fun T' w' => ∃ M71 cs73 d74 v75, Mm.ext w.heap.size noX M58 M71 ∧ St w noX M71 [.row v75 3 1, .box b12 cs14 64, .box b6 (Zr.zc GNode) 48, .box b4 cs73 48] w' ∧ rep M71 cs73 d74 ∧ sl cs73 (0 + 192) 1 = [v75] ∧ T' 1 = .int .i64 x2 ∧ T' 2 = .pointer (some ⟨b4, 0, none⟩) ∧ T' 4 = .pointer (some ⟨b6, 0, none⟩) ∧ T' 5 = .pointer (some ⟨b12, 0, none⟩) ∧ T' 15 = .int .i64 y32 ∧ T' 26 = u54 ∧ T' 27 = .int .i64 (r55.length : Int) ∧ T' 28 = .int .i64 y64 ∧ nodeExec_j2 y64 rec65 d74 = some r) ?_ ?_
 have hF78 := Mm.ext.refl w.heap.size noX M58
 refine W_block <|W_seq <|W_reg ?_
 obtain ⟨x80, hx79, hz⟩ := bind_ok hz
 obtain ⟨b79, o79, c79, p79, hv79, hi79, hj79, hM79, hr79⟩ := repL_at f54 hx79
 replace hr79 : rep _ (sl p79 (o79 + Int.toNat y64 * 1) 1) x80 := hr79
 refine WL_y (Y_ixL il27 hT59_26 hv79 hT59_28 hi79 hj79) <|WL_y (Y_ld1 (.int .i64 x80) ts3 rfl (hS.bvM hM79) hr79) <|WL_y (Y_assign (.int .i64 x80) rfl) ?_
 refine WL_nil (nm_then ?_)
 refine W_seq <|W_reg <|WL_y (Y_move (.int .i64 x80) rfl) <|WL_y (Y_fa fa48_0 hT59_2) ?_
 obtain ⟨u81, hx82, hz⟩ := bind_ok hz
 obtain ⟨hx82a, hx82b⟩ := inR_some hx82
 refine WL_y (Y_ixA ia45 rfl rfl hx82a hx82b) <|WL_y (Y_fa fa44_0 rfl) ?_
 obtain ⟨x83, hx84, hz⟩ := bind_ok hz
 refine WL_y (Y_ld1 (.int .i64 x83.state) ts3 rfl (hS.bvB 3 rfl) (GEntry.p0 (vp (k := 6) rfl rfl (GNode.p0 (rr hb60)) hx84))) <|WL_y (Y_eql rfl rfl) ?_
 refine WL_nil (nm_then ?_)
 refine W_cond rfl (fun hc85 => ?_) (fun hc85 => ?_)
 replace hz := bif_ok_t hz hc85
 refine W_reg ?_
 have ha86 := (rr hb60)
 have hp87 : sl (sl cs60 (0) 201) 192 1 = [v62] := (sl_sub (by decide)).trans hp63
 refine WL_y (Y_ldn ta48 hT59_2 (hS.bvB 3 rfl) (Rep.len ha86)) <|WL_y (Y_move (.int .i64 x80) rfl) <|WL_y (Y_move (.int .i64 x2) hT59_1) ?_
 obtain ⟨r90, hr89, hz⟩ := bind_ok hz
 refine WL_c (O_lend (vs := [.agg (sl cs60 (0) 201).toArray, .int .i64 x80, .int .i64 x2]) (L := [.row v62 3 1]) (R := [.box b12 cs14 64, .box b6 (Zr.zc GNode) 48, .box b4 cs60 48]) (rv := (fun M' u L' => ∃ c0 u0, u = .agg c0.toArray ∧ L' = [.row u0 3 1] ∧ rep M' c0 r90 ∧ sl c0 192 1 = [u0])) cb74 (args3 rfl rfl rfl) hS (hS.sel [0, 1, 2, 3] (by decide) rfl) (fun hS => nodeOne_ok hS ha86 hp87 hr89) ?_)
 rintro u89 M89 w88 L89 hx89 ⟨c0_89, u0_89, rfl, hL89, f89_0, f89_1⟩ hS
 replace hS := hS _ hL89
 replace zb6 := Rep.mono hx89.1 zb6
 replace hb14 := Rep.mono hx89.1 hb14
 replace f54 := repL.mono hx89.1 f54
 replace hb60 := Rep.mono hx89.1 hb60
 replace ha86 := Rep.mono hx89.1 ha86
 replace hE := Mm.ext.trans hE hx89
 replace hF35 := Mm.ext.trans hF35 hx89
 replace hF46 := Mm.ext.trans hF46 hx89
 replace hF67 := Mm.ext.trans hF67 hx89
 replace hF78 := Mm.ext.trans hF78 hx89
 obtain ⟨d93, hd92, hz⟩ := bind_ok hz
 refine WL_c (O_sx 3 201 hS rfl hb60 hT59_2 rfl f89_0 rfl rfl (Lf (rr hb60) f89_0) hd92 ?_)
 intro cs92 w91 hb92 ha92 hs92 hS
 have hp94 : sl cs92 (0 + 192) 1 = [u0_89] := sl_in hs92 f89_1 (by decide)
 refine WL_nil (nm_blk ?_)
 refine (nm_then ?_)
 exact ⟨M89, cs92, d93, u0_89, hF78, hS, hb92, hp94, hT59_1, hT59_2, hT59_4, hT59_5, hT59_15, hT59_26, hT59_27, hT59_28, hz⟩
 replace hz := bif_ok_f hz hc85
 refine W_skip (nm_blk ?_)
 refine (nm_then ?_)
 exact ⟨M58, cs60, d61, v62, hF78, hS, hb60, hp63, hT59_1, hT59_2, hT59_4, hT59_5, hT59_15, hT59_26, hT59_27, hT59_28, hz⟩
 rintro T72 w70 ⟨M71, cs73, d74, v75, hx77, hS, hb73, hp76, hT72_1, hT72_2, hT72_4, hT72_5, hT72_15, hT72_26, hT72_27, hT72_28, hz⟩
 replace zb6 := Rep.mono hx77.1 zb6
 replace hb14 := Rep.mono hx77.1 hb14
 replace f54 := repL.mono hx77.1 f54
 replace hE := Mm.ext.trans hE hx77
 replace hF35 := Mm.ext.trans hF35 hx77
 replace hF46 := Mm.ext.trans hF46 hx77
 replace hF67 := Mm.ext.trans hF67 hx77
 rw [nodeExec_j2] at hz
 refine W_reg <|WL_y (Y_add hT72_28 rfl) <|WL_y (Y_move (.int .i64 (IntKind.wrap .i64 (y64 + 1))) rfl) ?_
 refine WL_nil (nm_then ?_)
 exact ⟨M71, cs73, d74, v75, (IntKind.wrap .i64 (y64 + 1)), hF67, hS, hb73, hp76, hT72_1, hT72_2, hT72_4, hT72_5, hT72_15, hT72_26, hT72_27, rfl, (by rw [← hrec65]; exact hz)⟩
 replace hz := bif_ok_f hz hc69
 refine W_exit <|ex_then <|ex_then <|ex_hit ?_
 refine (nm_blk ?_)
 refine (nm_then ?_)
 exact ⟨M58, cs60, d61, v62, hF46, hS, hb60, hp63, hT59_1, hT59_2, hT59_4, hT59_5, hT59_15, hz⟩
 rintro T40 w38 ⟨M39, cs41, d42, v43, hx45, hS, hb41, hp44, hT40_1, hT40_2, hT40_4, hT40_5, hT40_15, hz⟩
 replace zb6 := Rep.mono hx45.1 zb6
 replace hb14 := Rep.mono hx45.1 hb14
 replace hE := Mm.ext.trans hE hx45
 replace hF35 := Mm.ext.trans hF35 hx45
 rw [nodeExec_j1] at hz
 refine W_reg <|WL_y (Y_add hT40_15 rfl) <|WL_y (Y_move (.int .i64 (IntKind.wrap .i64 (y32 + 1))) rfl) ?_
 refine WL_nil (nm_then ?_)
 exact ⟨M39, cs41, d42, v43, (IntKind.wrap .i64 (y32 + 1)), hF35, hS, hb41, hp44, hT40_1, hT40_2, hT40_4, hT40_5, rfl, (by rw [← hrec33]; exact hz)⟩
 replace hz := bif_ok_f hz hc37
 refine W_exit <|ex_then <|ex_then <|ex_hit ?_
 refine (nm_then ?_)
 refine W_seq <|W_reg ?_
 have ha95 := (rr hb28)
 have hp96 : sl (sl cs28 (0) 201) 192 1 = [v30] := (sl_sub (by decide)).trans hp31
 refine WL_y (Y_ldn ta48 hT27_2 (hS.bvB 3 rfl) (Rep.len ha95)) ?_
 obtain ⟨d99, hd98, hz⟩ := bind_ok hz
 refine WL_c (O_sx 2 201 hS rfl zb6 hT27_4 rfl ha95 rfl rfl (Lf (rr zb6) ha95) hd98 ?_)
 intro cs98 w97 hb98 ha98 hs98 hS
 have hp100 : sl cs98 (0 + 192) 1 = [v30] := sl_in hs98 hp96 (by decide)
 refine WL_nil (nm_then ?_)
 cases hz
 exact W_ret (R_c (j := 2) rfl hT27_4 (by rw [Rep.len hb98]; exact ta48) hS rfl (Gives.mk (St.dropB (St.dropB (St.dropB (St.drop hS) hb12) hb6) hb4) hE ⟨_, rfl, hb98⟩))
def nodeTake_j3 (d50 : GNode) (l51 : List GFrame) (y53 : Int) : Option (GNode × (List GFrame) × Int) :=
 some (d50, l51, y53)
def nodeTake_j2 (x2 : Int) (x3 : GFrame) (d44 : GNode) : Option (GNode × (List GFrame) × Int) :=
 (idxV d44.entries x3.id).bind fun x60 =>
 (some ({ kind := 2, node := x2, id := x3.id, ops := Zr.zd, deps := x60.first, at_ := Zr.zd, vals := Zr.zd } : GFrame)).bind fun d64 =>
 (some d44).bind fun d69 =>
 nodeTake_j3 d69 ([d64] : List GFrame) 0
def nodeTake_j5 (d102 : GNode) (l112 : List GFrame) : Option (GNode × (List GFrame) × Int) :=
 (some d102).bind fun d118 =>
 some (d118, l112, 0)
def nodeTake_j6 (x2 : Int) (x3 : GFrame) (d102 : GNode) (d105 : GFrame) (d129 : GEntry) (c133 : Bool) : Option (GNode × (List GFrame) × Int) :=
 (bif c133 then
 (some ({ kind := 5, node := x2, id := x3.id, ops := Zr.zd, deps := Zr.zd, at_ := d129.at_, vals := d129.values } : GFrame)).bind fun d139 =>
 (app ([d105] : List GFrame) ([d139] : List GFrame)).bind fun l144 =>
 nodeTake_j5 d102 l144
 else
 nodeTake_j5 d102 ([d105] : List GFrame))
def nodeTake_j4 (x2 : Int) (x3 : GFrame) (r27 : Int) (d102 : GNode) : Option (GNode × (List GFrame) × Int) :=
 (some ({ kind := 4, node := x2, id := x3.id, ops := Zr.zd, deps := Zr.zd, at_ := Zr.zd, vals := Zr.zd } : GFrame)).bind fun d105 =>
 (inR x3.id 32).bind fun _ =>
 (idxV d102.entries x3.id).bind fun x122 =>
 (some x122).bind fun d129 =>
 (bif d129.state == 3 then
 (some (touchesZ d129.ops r27)).bind fun r150 =>
 nodeTake_j6 x2 x3 d102 d105 d129 r150
 else
 nodeTake_j6 x2 x3 d102 d105 d129 false)
def nodeTake_j7 (fu : Nat) (x2 : Int) (x3 : GFrame) (r27 : Int) (d159 : GNode) : Option (GNode × (List GFrame) × Int) :=
 (idxV d159.entries x3.id).bind fun x168 =>
 (setV d159.entries x3.id ({ x168 with state := 2 })).bind fun a170 =>
 (some ({ d159 with entries := a170 } : GNode)).bind fun d172 =>
 (idxV d172.entries x3.id).bind fun x176 =>
 (setV d172.entries x3.id ({ x176 with ops := x3.ops })).bind fun a178 =>
 (some ({ d172 with entries := a178 } : GNode)).bind fun d180 =>
 (idxV d180.entries x3.id).bind fun x184 =>
 (setV d180.entries x3.id ({ x184 with deps := x3.deps })).bind fun a186 =>
 (some ({ d180 with entries := a186 } : GNode)).bind fun d188 =>
 (nodeExecD fu d188 r27).bind fun r193 =>
 (some r193).bind fun d196 =>
 nodeTake_j4 x2 x3 r27 d196
def nodeTake_j1 (fu : Nat) (x1 : GNode) (x2 : Int) (x3 : GFrame) (d14 : GNode) : Option (GNode × (List GFrame) × Int) :=
 (some (frameZ x3)).bind fun r19 =>
 (bif r19 != 0 then
 (some x1).bind fun d24 =>
 some (d24, [], r19)
 else
 (some (ofZ x2)).bind fun r27 =>
 (inR x3.id 32).bind fun _ =>
 (bif x3.kind == 1 then
 (some (touchesZ x3.ops r27)).bind fun r34 =>
 (bif !r34 then
 (some x1).bind fun d39 =>
 some (d39, [], 4)
 else
 (idxV x1.entries x3.id).bind fun x75 =>
 (bif x75.state == 0 then
 (nodeAheadD fu x1 x3.id x3.ops r27).bind fun r86 =>
 (some ({ state := 1, ops := x3.ops, first := r86, deps := Zr.zd, at_ := Zr.zd, values := Zr.zd } : GEntry)).bind fun d89 =>
 (idxV x1.entries x3.id).bind fun x92 =>
 (setV x1.entries x3.id d89).bind fun a94 =>
 (some ({ x1 with entries := a94 } : GNode)).bind fun d96 =>
 nodeTake_j2 x2 x3 d96
 else
 nodeTake_j2 x2 x3 x1))
 else
 (bif x3.kind == 3 then
 (idxV x1.entries x3.id).bind fun x152 =>
 (bif decide (x152.state < 2) then
 (idxV x1.entries x3.id).bind fun x198 =>
 (bif x198.state == 0 then
 (nodeAheadD fu x1 x3.id x3.ops r27).bind fun r205 =>
 (idxV x1.entries x3.id).bind fun x208 =>
 (setV x1.entries x3.id ({ x208 with first := r205 })).bind fun a210 =>
 (some ({ x1 with entries := a210 } : GNode)).bind fun d212 =>
 nodeTake_j7 fu x2 x3 r27 d212
 else
 nodeTake_j7 fu x2 x3 r27 x1)
 else
 nodeTake_j4 x2 x3 r27 x1)
 else
 (some x1).bind fun d216 =>
 some (d216, [], 3))))
def nodeTake_j8 (fu : Nat) (x1 : GNode) (x2 : Int) (x3 : GFrame) (c221 : Bool) : Option (GNode × (List GFrame) × Int) :=
 (bif c221 then
 (some x1).bind fun d227 =>
 some (d227, [], 2)
 else
 nodeTake_j1 fu x1 x2 x3 (Zr.zd : GNode))
def nodeTakeD (fu : Nat) (x1 : GNode) (x2 : Int) (x3 : GFrame) : Option (GNode × (List GFrame) × Int) :=
 (nodeGoodD fu x1).bind fun r232 =>
 (bif !r232 then
 nodeTake_j8 fu x1 x2 x3 true
 else
 (nodeIsD fu x2).bind fun r236 =>
 (bif !r236 then
 nodeTake_j8 fu x1 x2 x3 true
 else
 nodeTake_j8 fu x1 x2 x3 (x3.node != x2)))
set_option maxRecDepth 100000 in
set_option maxHeartbeats 4000000 in
theorem nodeTake_ok {M : Mm} {w : World} {cx1 : List Value} {cx3 : List Value} {x1 : GNode} {x2 : Int} {x3 : GFrame} {fu : Nat} {r : GNode × (List GFrame) × Int} (hA : Agree M w) (hcx1 : rep M cx1 x1) (hcx3 : rep M cx3 x3) (hz : nodeTakeD fu x1 x2 x3 = some r) :
    Calls Try.prog 17 #[.agg cx1.toArray, .int .i64 x2, .agg cx3.toArray] w (Gives M w (fun M' u => ∃ c0 v1, u = .tuple #[.agg c0.toArray, v1, .int .i64 r.2.2] ∧ rep M' c0 r.1 ∧ repL M' v1 r.2.1)) := by
 refine calls_W Try.func17 rfl 149 rfl rfl (by kernel_rfl) fun T hT => ?_
 have hT_0 : T 0 = .agg cx1.toArray := hT 0
 have hT_1 : T 1 = .int .i64 x2 := hT 1
 have hT_2 : T 2 = .agg cx3.toArray := hT 2
 clear hT
 have hE := Mm.ext.refl w.heap.size noX M
 have hS : St w noX M [] w := St.start hA
 rw [nodeTakeD] at hz
 refine W_seq <|W_reg ?_
 refine WL_c (O_box (v := .agg cx1.toArray) (cs := cx1) hT_0 rfl hS ?_)
 intro b5 w4 hb5 hS
 refine WL_c (O_box (v := .agg cx3.toArray) (cs := cx3) hT_2 rfl hS ?_)
 intro b7 w6 hb7 hS
 refine WL_c (O_alloc tz48 hS ?_)
 intro b9 w8 hb9 hS
 have zb9 : rep M (Zr.zc GNode) (Zr.zd : GNode) := Zr.zr
 refine WL_d 2 rfl ?_
 refine WL_nil (nm_then ?_)
 refine W_seqJ (fun T' w' => ∃ M11 cs13 d14, Mm.ext w.heap.size noX M M11 ∧ St w noX M11 [.box b9 cs13 48, .box b7 cx3 38, .box b5 cx1 48] w' ∧ rep M11 cs13 d14 ∧ T' 1 = .int .i64 x2 ∧ T' 3 = .pointer (some ⟨b5, 0, none⟩) ∧ T' 5 = .pointer (some ⟨b7, 0, none⟩) ∧ T' 6 = .pointer (some ⟨b9, 0, none⟩) ∧ nodeTake_j1 fu x1 x2 x3 d14 = some r) ?_ ?_
 have hF217 := Mm.ext.refl w.heap.size noX M
 refine W_seqJ (fun T' w' => ∃ M219 c221, Mm.ext w.heap.size noX M M219 ∧ St w noX M219 [.box b9 (Zr.zc GNode) 48, .box b7 cx3 38, .box b5 cx1 48] w' ∧ T' 1 = .int .i64 x2 ∧ T' 3 = .pointer (some ⟨b5, 0, none⟩) ∧ T' 5 = .pointer (some ⟨b7, 0, none⟩) ∧ T' 6 = .pointer (some ⟨b9, 0, none⟩) ∧ T' 27 = .bool c221 ∧ nodeTake_j8 fu x1 x2 x3 c221 = some r) ?_ ?_
 have hF228 := Mm.ext.refl w.heap.size noX M
 refine W_reg ?_
 have ha229 := (rr hcx1)
 refine WL_y (Y_ldn ta48 rfl (hS.bvB 2 rfl) (Rep.len ha229)) ?_
 obtain ⟨r232, hr231, hz⟩ := bind_ok hz
 refine WL_c (O_val (vs := [.agg (sl cx1 (0) 201).toArray]) (v := .bool r232) cb21 (args1 rfl) hS (nodeGood_ok hS.agree ha229 hr231) ?_)
 intro w230 hS
 refine WL_y (Y_not rfl) <|WL_y (Y_move (.bool (!r232)) rfl) ?_
 rcases ic hz with ⟨hc233, hz⟩ | ⟨hc233, hz⟩ <;> rw [hc233]
 refine WL_d 10 rfl ?_
 refine WL_nil (nm_then ?_)
 exact ⟨M, true, hF228, hS, hT_1, rfl, rfl, rfl, rfl, hz⟩
 refine WL_gy rfl rfl (Y_move (.int .i64 x2) hT_1) ?_
 obtain ⟨r236, hr235, hz⟩ := bind_ok hz
 refine WL_g rfl rfl (O_val (vs := [.int .i64 x2]) (v := .bool r236) cb51 (args1 rfl) hS (nodeIs_ok hS.agree hr235) ?_)
 intro w234 hS
 refine WL_gy rfl rfl (Y_not rfl) <|WL_d 2 rfl ?_
 rcases ic hz with ⟨hc237, hz⟩ | ⟨hc237, hz⟩ <;> rw [hc237]
 refine WL_d 5 rfl ?_
 refine WL_nil (nm_then ?_)
 exact ⟨M, true, hF228, hS, hT_1, rfl, rfl, rfl, rfl, hz⟩
 refine WL_gy rfl rfl (Y_fa fa38_1 rfl) <|WL_gy rfl rfl (Y_ld1 (.int .i64 x3.node) ts3 rfl (hS.bvB 1 rfl) (GFrame.p1 (rr hcx3))) <|WL_gy rfl rfl (Y_move (.int .i64 x2) hT_1) <|WL_gy rfl rfl (Y_neq rfl rfl) <|WL_y (Y_pick_f (.bool (x3.node != x2)) rfl rfl) ?_
 refine WL_nil (nm_then ?_)
 exact ⟨M, (x3.node != x2), hF228, hS, hT_1, rfl, rfl, rfl, rfl, hz⟩
 rintro T220 w218 ⟨M219, c221, hx222, hS, hT220_1, hT220_3, hT220_5, hT220_6, hT220_27, hz⟩
 replace hcx1 := Rep.mono hx222.1 hcx1
 replace hcx3 := Rep.mono hx222.1 hcx3
 replace zb9 := Rep.mono hx222.1 zb9
 replace hE := Mm.ext.trans hE hx222
 replace hF217 := Mm.ext.trans hF217 hx222
 rw [nodeTake_j8] at hz
 refine W_cond hT220_27 (fun hc223 => ?_) (fun hc223 => ?_)
 replace hz := bif_ok_t hz hc223
 refine W_seq <|W_reg ?_
 have ha224 := (rr hcx1)
 refine WL_y (Y_ldn ta48 hT220_3 (hS.bvB 2 rfl) (Rep.len ha224)) ?_
 obtain ⟨d227, hd226, hz⟩ := bind_ok hz
 refine WL_c (O_sx 0 201 hS rfl zb9 hT220_6 rfl ha224 rfl rfl (Lf (rr zb9) ha224) hd226 ?_)
 intro cs226 w225 hb226 ha226 hs226 hS
 refine WL_d 2 rfl ?_
 refine WL_nil (nm_then ?_)
 cases hz
 exact W_ret (rt_then (R_ctt (j := 0) rfl hT220_6 rfl rfl (by rw [Rep.len hb226]; exact ta48) hS rfl (Gives.mk (St.dropB (St.dropB (St.dropB hS hb9) hb7) hb5) hE ⟨_, _, rfl, hb226, (repL_nil _)⟩)))
 replace hz := bif_ok_f hz hc223
 refine W_skip (nm_then ?_)
 exact ⟨M219, (Zr.zc GNode), (Zr.zd : GNode), hF217, hS, zb9, hT220_1, hT220_3, hT220_5, hT220_6, hz⟩
 rintro T12 w10 ⟨M11, cs13, d14, hx15, hS, hb13, hT12_1, hT12_3, hT12_5, hT12_6, hz⟩
 replace hcx1 := Rep.mono hx15.1 hcx1
 replace hcx3 := Rep.mono hx15.1 hcx3
 replace hE := Mm.ext.trans hE hx15
 rw [nodeTake_j1] at hz
 refine W_seq <|W_seq <|W_reg ?_
 have ha16 := (rr hcx3)
 refine WL_y (Y_ldn ta38 hT12_5 (hS.bvB 1 rfl) (Rep.len ha16)) ?_
 obtain ⟨r19, hr18, hz⟩ := bind_ok hz
 replace hr18 := Option.some.inj hr18
 refine WL_c (O_val (vs := [.agg (sl cx3 (0) 7).toArray]) (v := .int .i64 r19) cb43 (args1 rfl) hS (hr18 ▸ (c_good hS.agree ha16)) ?_)
 intro w17 hS
 refine WL_y (Y_assign (.int .i64 r19) rfl) ?_
 refine WL_nil (nm_then ?_)
 refine W_seq <|W_reg <|WL_y (Y_move (.int .i64 r19) rfl) <|WL_y (Y_neq rfl rfl) ?_
 refine WL_nil (nm_then ?_)
 refine W_cond rfl (fun hc20 => ?_) (fun hc20 => ?_)
 replace hz := bif_ok_t hz hc20
 refine W_seq <|W_reg ?_
 have ha21 := (rr hcx1)
 refine WL_y (Y_ldn ta48 hT12_3 (hS.bvB 2 rfl) (Rep.len ha21)) <|WL_y (Y_move (.int .i64 r19) rfl) ?_
 obtain ⟨d24, hd23, hz⟩ := bind_ok hz
 refine WL_c (O_sx 0 201 hS rfl hb13 hT12_6 rfl ha21 rfl rfl (Lf (rr hb13) ha21) hd23 ?_)
 intro cs23 w22 hb23 ha23 hs23 hS
 refine WL_d 2 rfl ?_
 refine WL_nil (nm_then ?_)
 cases hz
 exact W_ret (rt_then (R_ctt (j := 0) rfl hT12_6 rfl rfl (by rw [Rep.len hb23]; exact ta48) hS rfl (Gives.mk (St.dropB (St.dropB (St.dropB hS hb9) hb7) hb5) hE ⟨_, _, rfl, hb23, (repL_nil _)⟩)))
 replace hz := bif_ok_f hz hc20
 refine W_skip (nm_then ?_)
 refine W_seq <|W_reg <|WL_y (Y_move (.int .i64 x2) hT12_1) ?_
 obtain ⟨r27, hr26, hz⟩ := bind_ok hz
 replace hr26 := Option.some.inj hr26
 refine WL_c (O_val (vs := [.int .i64 x2]) (v := .int .i64 r27) cb45 (args1 rfl) hS (hr26 ▸ (c_of)) ?_)
 intro w25 hS
 refine WL_y (Y_assign (.int .i64 r27) rfl) ?_
 refine WL_nil (nm_then ?_)
 refine W_seq <|W_reg <|WL_y (Y_fa fa38_2 hT12_5) <|WL_y (Y_ld1 (.int .i64 x3.id) ts3 rfl (hS.bvB 1 rfl) (GFrame.p2 (rr hcx3))) <|WL_y (Y_fa fa48_0 hT12_3) ?_
 obtain ⟨u28, hx29, hz⟩ := bind_ok hz
 obtain ⟨hx29a, hx29b⟩ := inR_some hx29
 refine WL_y (Y_ixA ia45 rfl rfl hx29a hx29b) <|WL_y (Y_assign (.pointer (some ⟨b5, 0 + 0 + Int.toNat x3.id * 6, none⟩)) rfl) ?_
 refine WL_nil (nm_then ?_)
 refine W_seq <|W_seq <|W_reg <|WL_y (Y_fa fa38_0 hT12_5) <|WL_y (Y_ld1 (.int .i64 x3.kind) ts3 rfl (hS.bvB 1 rfl) (GFrame.p0 (rr hcx3))) ?_
 refine WL_nil (nm_then ?_)
 refine W_block <|W_seq <|W_reg <|WL_y (Y_eql rfl rfl) <|WL_y (Y_assign (.bool (x3.kind == 1)) rfl) ?_
 refine WL_nil (nm_then ?_)
 refine W_cond rfl (fun hc30 => ?_) (fun hc30 => ?_)
 replace hz := bif_ok_t hz hc30
 refine W_seq <|W_seq <|W_reg <|WL_y (Y_fa fa38_3 hT12_5) ?_
 obtain ⟨v31, ev31, hv31⟩ := (GFrame.p3 (rr hcx3))
 refine WL_y (Y_ld1 v31 ts22 rfl (hS.bvB 1 rfl) ev31) <|WL_y (Y_move (.int .i64 r27) rfl) ?_
 obtain ⟨r34, hr33, hz⟩ := bind_ok hz
 replace hr33 := Option.some.inj hr33
 refine WL_c (O_val (vs := [v31, .int .i64 r27]) (v := .bool r34) cb44 (args2 rfl rfl) hS (hr33 ▸ (c_touches hS.agree hv31)) ?_)
 intro w32 hS
 refine WL_y (Y_not rfl) ?_
 refine WL_nil (nm_then ?_)
 refine W_cond rfl (fun hc35 => ?_) (fun hc35 => ?_)
 replace hz := bif_ok_t hz hc35
 refine W_seq <|W_reg ?_
 have ha36 := (rr hcx1)
 refine WL_y (Y_ldn ta48 hT12_3 (hS.bvB 2 rfl) (Rep.len ha36)) ?_
 obtain ⟨d39, hd38, hz⟩ := bind_ok hz
 refine WL_c (O_sx 0 201 hS rfl hb13 hT12_6 rfl ha36 rfl rfl (Lf (rr hb13) ha36) hd38 ?_)
 intro cs38 w37 hb38 ha38 hs38 hS
 refine WL_d 2 rfl ?_
 refine WL_nil (nm_then ?_)
 cases hz
 exact W_ret (rt_then (rt_blk (rt_then (R_ctt (j := 0) rfl hT12_6 rfl rfl (by rw [Rep.len hb38]; exact ta48) hS rfl (Gives.mk (St.dropB (St.dropB (St.dropB hS hb9) hb7) hb5) hE ⟨_, _, rfl, hb38, (repL_nil _)⟩)))))
 replace hz := bif_ok_f hz hc35
 refine W_skip (nm_then ?_)
 refine W_seqJ (fun T' w' => ∃ M41 cs43 d44, Mm.ext w.heap.size noX M11 M41 ∧ St w noX M41 [.box b9 cs13 48, .box b7 cx3 38, .box b5 cs43 48] w' ∧ rep M41 cs43 d44 ∧ T' 1 = .int .i64 x2 ∧ T' 3 = .pointer (some ⟨b5, 0, none⟩) ∧ T' 5 = .pointer (some ⟨b7, 0, none⟩) ∧ T' 6 = .pointer (some ⟨b9, 0, none⟩) ∧ T' 11 = .pointer (some ⟨b5, 0 + 0 + Int.toNat x3.id * 6, none⟩) ∧ nodeTake_j2 x2 x3 d44 = some r) ?_ ?_
 have hF74 := Mm.ext.refl w.heap.size noX M11
 refine W_seq <|W_reg <|WL_y (Y_move (.pointer (some ⟨b5, 0 + 0 + Int.toNat x3.id * 6, none⟩)) rfl) <|WL_y (Y_nil rfl) <|WL_y (Y_fa fa44_0 rfl) ?_
 obtain ⟨x75, hx76, hz⟩ := bind_ok hz
 refine WL_y (Y_ld1 (.int .i64 x75.state) ts3 rfl (hS.bvB 2 rfl) (GEntry.p0 (vp (k := 6) rfl rfl (GNode.p0 (rr hcx1)) hx76))) <|WL_y (Y_eql rfl rfl) ?_
 refine WL_nil (nm_then ?_)
 refine W_cond rfl (fun hc77 => ?_) (fun hc77 => ?_)
 replace hz := bif_ok_t hz hc77
 refine W_drawB (Rd M11 [.box b7 cx3 38, .box b5 cx1 48]) (inL [12]) mixed hS fun w78 hS => ?_
 have hG79 := Mm.ext.refl w.heap.size noX M11
 have hR80 : Rd M11 [.box b7 cx3 38, .box b5 cx1 48] w78 := Rd.of hS hG79 (by simp)
 refine WB_y (i := 0) rfl (by kernel_rfl) rfl (Y_move (.pointer (some ⟨b5, 0 + 0 + Int.toNat x3.id * 6, none⟩)) rfl) (fun _ => hR80) <|WB_y (i := 1) rfl (by kernel_rfl) rfl (Y_fa fa38_3 hT12_5) (fun _ => hR80) ?_
 obtain ⟨v81, ev81, hv81⟩ := (GFrame.p3 (rr hcx3))
 refine WB_ld (i := 2) rfl (by kernel_rfl) rfl (inL_lt rfl) (by kernel_rfl) (by kernel_rfl) (Y_ld1 v81 ts22 rfl (bvR 0 rfl) ev81) hR80 ?_
 have ha82 := (rr hcx1)
 refine WB_ld (i := 3) rfl (by kernel_rfl) rfl (inL_lt rfl) (by kernel_rfl) (by kernel_rfl) (Y_ldn ta48 hT12_3 (bvR 1 rfl) (Rep.len ha82)) hR80 <|WB_y (i := 4) rfl (by kernel_rfl) rfl (Y_fa fa38_2 hT12_5) (fun _ => hR80) <|WB_ld (i := 5) rfl (by kernel_rfl) rfl (inL_lt rfl) (by kernel_rfl) (by kernel_rfl) (Y_ld1 (.int .i64 x3.id) ts3 rfl (bvR 0 rfl) (GFrame.p2 (rr hcx3))) hR80 <|WB_y (i := 6) rfl (by kernel_rfl) rfl (Y_fa fa38_3 hT12_5) (fun _ => hR80) ?_
 obtain ⟨v83, ev83, hv83⟩ := (GFrame.p3 (rr hcx3))
 refine WB_ld (i := 7) rfl (by kernel_rfl) rfl (inL_lt rfl) (by kernel_rfl) (by kernel_rfl) (Y_ld1 v83 ts22 rfl (bvR 0 rfl) ev83) hR80 <|WB_y (i := 8) rfl (by kernel_rfl) rfl (Y_move (.int .i64 r27) rfl) (fun _ => hR80) ?_
 obtain ⟨r86, hr85, hz⟩ := bind_ok hz
 refine WB_one (i := 9) (by kernel_rfl) rfl (O_mem (vs := [.agg (sl cx1 (0) 201).toArray, .int .i64 x3.id, v83, .int .i64 r27]) (rv := (fun M' u => repL M' u r86)) cb52 (args4 rfl rfl rfl rfl) hS (nodeAhead_ok hS.agree ha82 hv83 hr85) ?_)
 intro u85 M85 w84 hx85 hu85 hS
 have f85 : repL M85 u85 r86 := hu85
 replace hcx1 := Rep.mono hx85.1 hcx1
 replace hcx3 := Rep.mono hx85.1 hcx3
 replace hb13 := Rep.mono hx85.1 hb13
 replace hv81 := repL.mono hx85.1 hv81
 replace ha82 := Rep.mono hx85.1 ha82
 replace hv83 := repL.mono hx85.1 hv83
 replace hE := Mm.ext.trans hE hx85
 replace hF74 := Mm.ext.trans hF74 hx85
 replace hG79 := Mm.ext.trans hG79 hx85
 have hR87 : Rd M11 [.box b7 cx3 38, .box b5 cx1 48] w84 := Rd.of hS hG79 (by simp)
 refine ⟨fun _ => hR87, ?_⟩
 have k88_0 := GEntry.w0 (Zr.zr : rep M85 (Zr.zc GEntry) (Zr.zd : GEntry)) (ri 1 : rep M85 _ _)
 have k88_1 := GEntry.w1 k88_0 (repL_rep hv81)
 have k88_2 := GEntry.w2 k88_1 (repL_rep f85)
 obtain ⟨d89, hd88, hz⟩ := bind_ok hz
 obtain ⟨cs88, hf88, ha88⟩ : ∃ cs, fillZ (([(0, 1), (1, 1), (2, 1), (3, 1), (4, 1), (5, 1)] : List (Nat × Nat))[·]?) (Zr.zc GEntry) [(0, .int .i64 1), (1, v81), (2, u85)] = some cs ∧ rep M85 cs d89 := ⟨_, (fz_cons (Zr.zr : rep M85 (Zr.zc GEntry) (Zr.zd : GEntry)) rfl rfl (Rep.len (ri 1 : rep M85 _ _)) (by decide) (fz_cons k88_0 rfl (repL_cells hv81) (Rep.len (repL_rep hv81)) (by decide) (fz_cons k88_1 rfl (repL_cells f85) (Rep.len (repL_rep f85)) (by decide) fz_nil))), rep_eq (x := ({ state := 1, ops := x3.ops, first := r86, deps := Zr.zd, at_ := Zr.zd, values := Zr.zd } : GEntry)) k88_2 hd88⟩
 refine WB_y (i := 10) rfl (by kernel_rfl) rfl (Y_build [(0, .int .i64 1), (1, v81), (2, u85)] tb44 (bpc rfl (bpc rfl (bpc rfl bp0))) hf88) (fun _ => hR87) <|WB_y (i := 11) rfl (by kernel_rfl) rfl (Y_nil rfl) (fun _ => hR87) ?_
 obtain ⟨x92, hx93, hz⟩ := bind_ok hz
 obtain ⟨a94, hx95, hz⟩ := bind_ok hz
 obtain ⟨d96, hd91, hz⟩ := bind_ok hz
 refine WB_one (i := 12) (by kernel_rfl) rfl (O_sx 2 6 hS rfl hcx1 rfl rfl ha88 rfl rfl (GNode.u0 (rr hcx1) (vu (k := 6) rfl rfl (GNode.p0 (rr hcx1)) (Lf (vp (k := 6) rfl rfl (GNode.p0 (rr hcx1)) hx93) ha88) hx95)) hd91 ?_)
 intro cs91 w90 hb91 ha91 hs91 hS
 refine ⟨fun h => Bool.noConfusion (show false = true from h), ?_⟩
 refine WB_done (by kernel_rfl) (nm_then ?_)
 exact ⟨M85, cs91, d96, hF74, hS, hb91, hT12_1, hT12_3, hT12_5, hT12_6, rfl, hz⟩
 replace hz := bif_ok_f hz hc77
 refine W_skip (nm_then ?_)
 exact ⟨M11, cx1, x1, hF74, hS, hcx1, hT12_1, hT12_3, hT12_5, hT12_6, rfl, hz⟩
 rintro T42 w40 ⟨M41, cs43, d44, hx45, hS, hb43, hT42_1, hT42_3, hT42_5, hT42_6, hT42_11, hz⟩
 replace hcx3 := Rep.mono hx45.1 hcx3
 replace hb13 := Rep.mono hx45.1 hb13
 replace hE := Mm.ext.trans hE hx45
 rw [nodeTake_j2] at hz
 refine W_seqJ (fun T' w' => ∃ M47 cs49 d50 v52 l51 y53, Mm.ext w.heap.size noX M41 M47 ∧ St w noX M47 [.box b9 cs49 48, .box b7 cx3 38, .box b5 cs43 48] w' ∧ rep M47 cs49 d50 ∧ repL M47 v52 l51 ∧ T' 6 = .pointer (some ⟨b9, 0, none⟩) ∧ T' 7 = v52 ∧ T' 8 = .int .i64 y53 ∧ nodeTake_j3 d50 l51 y53 = some r) ?_ ?_
 have hF55 := Mm.ext.refl w.heap.size noX M41
 refine W_drawB (Rd M41 [.box b7 cx3 38, .box b5 cs43 48]) (inL []) mixed hS fun w56 hS => ?_
 have hG57 := Mm.ext.refl w.heap.size noX M41
 have hR58 : Rd M41 [.box b7 cx3 38, .box b5 cs43 48] w56 := Rd.of hS hG57 (by simp)
 have ha59 := (rr hb43)
 refine WB_ld (i := 0) rfl (by kernel_rfl) rfl (inL_lt rfl) (by kernel_rfl) (by kernel_rfl) (Y_ldn ta48 hT42_3 (bvR 1 rfl) (Rep.len ha59)) hR58 <|WB_y (i := 1) rfl (by kernel_rfl) rfl (Y_move (.int .i64 x2) hT42_1) (fun _ => hR58) <|WB_y (i := 2) rfl (by kernel_rfl) rfl (Y_fa fa38_2 hT42_5) (fun _ => hR58) <|WB_ld (i := 3) rfl (by kernel_rfl) rfl (inL_lt rfl) (by kernel_rfl) (by kernel_rfl) (Y_ld1 (.int .i64 x3.id) ts3 rfl (bvR 0 rfl) (GFrame.p2 (rr hcx3))) hR58 <|WB_y (i := 4) rfl (by kernel_rfl) rfl (Y_move (.pointer (some ⟨b5, 0 + 0 + Int.toNat x3.id * 6, none⟩)) hT42_11) (fun _ => hR58) <|WB_y (i := 5) rfl (by kernel_rfl) rfl (Y_nil rfl) (fun _ => hR58) <|WB_y (i := 6) rfl (by kernel_rfl) rfl (Y_fa fa44_2 rfl) (fun _ => hR58) ?_
 obtain ⟨x60, hx61, hz⟩ := bind_ok hz
 obtain ⟨v62, ev62, hv62⟩ := (GEntry.p2 (vp (k := 6) rfl rfl (GNode.p0 (rr hb43)) hx61))
 refine WB_ld (i := 7) rfl (by kernel_rfl) rfl (inL_lt rfl) (by kernel_rfl) (by kernel_rfl) (Y_ld1 v62 ts27 rfl (bvR 1 rfl) ev62) hR58 ?_
 have k63_0 := GFrame.w0 (Zr.zr : rep M41 (Zr.zc GFrame) (Zr.zd : GFrame)) (ri 2 : rep M41 _ _)
 have k63_1 := GFrame.w1 k63_0 (ri x2 : rep M41 _ _)
 have k63_2 := GFrame.w2 k63_1 (ri x3.id : rep M41 _ _)
 have k63_3 := GFrame.w4 k63_2 (repL_rep hv62)
 obtain ⟨d64, hd63, hz⟩ := bind_ok hz
 obtain ⟨cs63, hf63, ha63⟩ : ∃ cs, fillZ (([(0, 1), (1, 1), (2, 1), (3, 1), (4, 1), (5, 1), (6, 1)] : List (Nat × Nat))[·]?) (Zr.zc GFrame) [(0, .int .i64 2), (1, .int .i64 x2), (2, .int .i64 x3.id), (4, v62)] = some cs ∧ rep M41 cs d64 := ⟨_, (fz_cons (Zr.zr : rep M41 (Zr.zc GFrame) (Zr.zd : GFrame)) rfl rfl (Rep.len (ri 2 : rep M41 _ _)) (by decide) (fz_cons k63_0 rfl rfl (Rep.len (ri x2 : rep M41 _ _)) (by decide) (fz_cons k63_1 rfl rfl (Rep.len (ri x3.id : rep M41 _ _)) (by decide) (fz_cons k63_2 rfl (repL_cells hv62) (Rep.len (repL_rep hv62)) (by decide) fz_nil)))), rep_eq (x := ({ kind := 2, node := x2, id := x3.id, ops := Zr.zd, deps := x60.first, at_ := Zr.zd, vals := Zr.zd } : GFrame)) k63_3 hd63⟩
 refine WB_y (i := 8) rfl (by kernel_rfl) rfl (Y_build [(0, .int .i64 2), (1, .int .i64 x2), (2, .int .i64 x3.id), (4, v62)] tb38 (bpc rfl (bpc rfl (bpc rfl (bpc rfl bp0)))) hf63) (fun _ => hR58) ?_
 obtain ⟨d69, hd68, hz⟩ := bind_ok hz
 refine WB_two (i := 9) (j := 10) (by kernel_rfl) rfl rfl (O_bslice (α := GFrame) (l := ([d64] : List GFrame)) [.agg cs63.toArray] tl25 (bpc rfl bp0) rfl rfl (by decide) (by decide) (by decide) hS (brc ha63 br0) ?_) (O_sx 0 201 hS rfl hb13 hT42_6 rfl ha59 rfl rfl (Lf (rr hb13) ha59) hd68 ?_)
 intro v66 M66 w65 hx66 hv66 hS
 replace hcx3 := Rep.mono hx66.1 hcx3
 replace hb13 := Rep.mono hx66.1 hb13
 replace hb43 := Rep.mono hx66.1 hb43
 replace ha59 := Rep.mono hx66.1 ha59
 replace hv62 := repL.mono hx66.1 hv62
 replace ha63 := Rep.mono hx66.1 ha63
 replace hE := Mm.ext.trans hE hx66
 replace hF55 := Mm.ext.trans hF55 hx66
 replace hG57 := Mm.ext.trans hG57 hx66
 have hR70 : Rd M41 [.box b7 cx3 38, .box b5 cs43 48] w65 := Rd.of hS hG57 (by simp)
 refine ⟨fun _ => hR70, ?_⟩
 refine WB_one (i := 10) (by kernel_rfl) rfl (O_sx 0 201 hS rfl hb13 hT42_6 rfl ha59 rfl rfl (Lf (rr hb13) ha59) hd68 ?_)
 intro cs68 w67 hb68 ha68 hs68 hS
 have hR71 : Rd M41 [.box b7 cx3 38, .box b5 cs43 48] w67 := Rd.of hS hG57 (by simp)
 refine ⟨fun _ => hR71, ?_⟩
 refine WB_y (i := 11) rfl (by kernel_rfl) rfl (Y_assign (v66) rfl) (fun _ => hR71) <|WB_y (i := 12) rfl (by kernel_rfl) rfl (Y_assign (.int .i64 0) rfl) (fun _ => hR71) ?_
 refine WB_done (by kernel_rfl) (nm_then ?_)
 exact ⟨M66, cs68, d69, v66, ([d64] : List GFrame), (0 : Int), hF55, hS, hb68, hv66, hT42_6, rfl, rfl, hz⟩
 intro cs68 w67 hb68 ha68 hs68 hS
 have hR72 : Rd M41 [.box b7 cx3 38, .box b5 cs43 48] w67 := Rd.of hS hG57 (by simp)
 refine ⟨fun _ => hR72, ?_⟩
 refine WB_one (i := 9) (by kernel_rfl) rfl (O_bslice (α := GFrame) (l := ([d64] : List GFrame)) [.agg cs63.toArray] tl25 (bpc rfl bp0) rfl rfl (by decide) (by decide) (by decide) hS (brc ha63 br0) ?_)
 intro v66 M66 w65 hx66 hv66 hS
 replace hcx3 := Rep.mono hx66.1 hcx3
 replace hb43 := Rep.mono hx66.1 hb43
 replace ha59 := Rep.mono hx66.1 ha59
 replace hv62 := repL.mono hx66.1 hv62
 replace ha63 := Rep.mono hx66.1 ha63
 replace hb68 := Rep.mono hx66.1 hb68
 replace hE := Mm.ext.trans hE hx66
 replace hF55 := Mm.ext.trans hF55 hx66
 replace hG57 := Mm.ext.trans hG57 hx66
 have hR73 : Rd M41 [.box b7 cx3 38, .box b5 cs43 48] w65 := Rd.of hS hG57 (by simp)
 refine ⟨fun _ => hR73, ?_⟩
 refine WB_y (i := 11) rfl (by kernel_rfl) rfl (Y_assign (v66) rfl) (fun _ => hR73) <|WB_y (i := 12) rfl (by kernel_rfl) rfl (Y_assign (.int .i64 0) rfl) (fun _ => hR73) ?_
 refine WB_done (by kernel_rfl) (nm_then ?_)
 exact ⟨M66, cs68, d69, v66, ([d64] : List GFrame), (0 : Int), hF55, hS, hb68, hv66, hT42_6, rfl, rfl, hz⟩
 rintro T48 w46 ⟨M47, cs49, d50, v52, l51, y53, hx54, hS, hb49, hv52, hT48_6, hT48_7, hT48_8, hz⟩
 replace hcx3 := Rep.mono hx54.1 hcx3
 replace hb43 := Rep.mono hx54.1 hb43
 replace hE := Mm.ext.trans hE hx54
 rw [nodeTake_j3] at hz
 cases hz
 exact W_ret (rt_blk (rt_then (R_ctt (j := 0) rfl hT48_6 hT48_7 hT48_8 (by rw [Rep.len hb49]; exact ta48) hS rfl (Gives.mk (St.dropB (St.dropB (St.dropB hS hb9) hb7) hb5) hE ⟨_, _, rfl, hb49, hv52⟩))))
 replace hz := bif_ok_f hz hc30
 refine W_seq <|W_reg <|WL_y (Y_eql rfl rfl) <|WL_y (Y_assign (.bool (x3.kind == 3)) rfl) ?_
 refine WL_nil (nm_then ?_)
 refine W_cond rfl (fun hc97 => ?_) (fun hc97 => ?_)
 replace hz := bif_ok_t hz hc97
 refine W_seqJ (fun T' w' => ∃ M99 cs101 d102, Mm.ext w.heap.size noX M11 M99 ∧ St w noX M99 [.box b9 cs13 48, .box b7 cx3 38, .box b5 cs101 48] w' ∧ rep M99 cs101 d102 ∧ T' 1 = .int .i64 x2 ∧ T' 3 = .pointer (some ⟨b5, 0, none⟩) ∧ T' 5 = .pointer (some ⟨b7, 0, none⟩) ∧ T' 6 = .pointer (some ⟨b9, 0, none⟩) ∧ T' 10 = .int .i64 r27 ∧ nodeTake_j4 x2 x3 r27 d102 = some r) ?_ ?_
 have hF151 := Mm.ext.refl w.heap.size noX M11
 refine W_seq <|W_reg <|WL_y (Y_move (.pointer (some ⟨b5, 0 + 0 + Int.toNat x3.id * 6, none⟩)) rfl) <|WL_y (Y_nil rfl) <|WL_y (Y_fa fa44_0 rfl) ?_
 obtain ⟨x152, hx153, hz⟩ := bind_ok hz
 refine WL_y (Y_ld1 (.int .i64 x152.state) ts3 rfl (hS.bvB 2 rfl) (GEntry.p0 (vp (k := 6) rfl rfl (GNode.p0 (rr hcx1)) hx153))) <|WL_y (Y_lss rfl rfl) ?_
 refine WL_nil (nm_then ?_)
 refine W_cond rfl (fun hc154 => ?_) (fun hc154 => ?_)
 replace hz := bif_ok_t hz hc154
 refine W_seqJ (fun T' w' => ∃ M156 cs158 d159, Mm.ext w.heap.size noX M11 M156 ∧ St w noX M156 [.box b9 cs13 48, .box b7 cx3 38, .box b5 cs158 48] w' ∧ rep M156 cs158 d159 ∧ T' 1 = .int .i64 x2 ∧ T' 3 = .pointer (some ⟨b5, 0, none⟩) ∧ T' 5 = .pointer (some ⟨b7, 0, none⟩) ∧ T' 6 = .pointer (some ⟨b9, 0, none⟩) ∧ T' 10 = .int .i64 r27 ∧ T' 11 = .pointer (some ⟨b5, 0 + 0 + Int.toNat x3.id * 6, none⟩) ∧ nodeTake_j7 fu x2 x3 r27 d159 = some r) ?_ ?_
 have hF197 := Mm.ext.refl w.heap.size noX M11
 refine W_seq <|W_reg <|WL_y (Y_move (.pointer (some ⟨b5, 0 + 0 + Int.toNat x3.id * 6, none⟩)) rfl) <|WL_y (Y_nil rfl) <|WL_y (Y_fa fa44_0 rfl) ?_
 obtain ⟨x198, hx199, hz⟩ := bind_ok hz
 refine WL_y (Y_ld1 (.int .i64 x198.state) ts3 rfl (hS.bvB 2 rfl) (GEntry.p0 (vp (k := 6) rfl rfl (GNode.p0 (rr hcx1)) hx199))) <|WL_y (Y_eql rfl rfl) ?_
 refine WL_nil (nm_then ?_)
 refine W_cond rfl (fun hc200 => ?_) (fun hc200 => ?_)
 replace hz := bif_ok_t hz hc200
 refine W_reg <|WL_y (Y_move (.pointer (some ⟨b5, 0 + 0 + Int.toNat x3.id * 6, none⟩)) rfl) ?_
 have ha201 := (rr hcx1)
 refine WL_y (Y_ldn ta48 hT12_3 (hS.bvB 2 rfl) (Rep.len ha201)) <|WL_y (Y_fa fa38_2 hT12_5) <|WL_y (Y_ld1 (.int .i64 x3.id) ts3 rfl (hS.bvB 1 rfl) (GFrame.p2 (rr hcx3))) <|WL_y (Y_fa fa38_3 hT12_5) ?_
 obtain ⟨v202, ev202, hv202⟩ := (GFrame.p3 (rr hcx3))
 refine WL_y (Y_ld1 v202 ts22 rfl (hS.bvB 1 rfl) ev202) <|WL_y (Y_move (.int .i64 r27) rfl) ?_
 obtain ⟨r205, hr204, hz⟩ := bind_ok hz
 refine WL_c (O_mem (vs := [.agg (sl cx1 (0) 201).toArray, .int .i64 x3.id, v202, .int .i64 r27]) (rv := (fun M' u => repL M' u r205)) cb52 (args4 rfl rfl rfl rfl) hS (nodeAhead_ok hS.agree ha201 hv202 hr204) ?_)
 intro u204 M204 w203 hx204 hu204 hS
 have f204 : repL M204 u204 r205 := hu204
 replace hcx1 := Rep.mono hx204.1 hcx1
 replace hcx3 := Rep.mono hx204.1 hcx3
 replace hb13 := Rep.mono hx204.1 hb13
 replace ha201 := Rep.mono hx204.1 ha201
 replace hv202 := repL.mono hx204.1 hv202
 replace hE := Mm.ext.trans hE hx204
 replace hF151 := Mm.ext.trans hF151 hx204
 replace hF197 := Mm.ext.trans hF197 hx204
 refine WL_y (Y_nil rfl) <|WL_y (Y_fa fa44_2 rfl) ?_
 obtain ⟨x208, hx209, hz⟩ := bind_ok hz
 obtain ⟨a210, hx211, hz⟩ := bind_ok hz
 obtain ⟨d212, hd207, hz⟩ := bind_ok hz
 refine WL_c (O_sx 2 1 hS rfl hcx1 rfl rfl (repL_rep f204) (repL_cells f204) rfl (GNode.u0 (rr hcx1) (vu (k := 6) rfl rfl (GNode.p0 (rr hcx1)) (GEntry.u2 (vp (k := 6) rfl rfl (GNode.p0 (rr hcx1)) hx209) (Lf (GEntry.p2 (vp (k := 6) rfl rfl (GNode.p0 (rr hcx1)) hx209)) (repL_rep f204))) hx211)) hd207 ?_)
 intro cs207 w206 hb207 ha207 hs207 hS
 refine WL_nil (nm_then ?_)
 exact ⟨M204, cs207, d212, hF197, hS, hb207, hT12_1, hT12_3, hT12_5, hT12_6, rfl, rfl, hz⟩
 replace hz := bif_ok_f hz hc200
 refine W_skip (nm_then ?_)
 exact ⟨M11, cx1, x1, hF197, hS, hcx1, hT12_1, hT12_3, hT12_5, hT12_6, rfl, rfl, hz⟩
 rintro T157 w155 ⟨M156, cs158, d159, hx160, hS, hb158, hT157_1, hT157_3, hT157_5, hT157_6, hT157_10, hT157_11, hz⟩
 replace hcx3 := Rep.mono hx160.1 hcx3
 replace hb13 := Rep.mono hx160.1 hb13
 replace hE := Mm.ext.trans hE hx160
 replace hF151 := Mm.ext.trans hF151 hx160
 rw [nodeTake_j7] at hz
 refine W_seq <|W_drawB (Rd M156 [.box b7 cx3 38]) (inL []) mixed hS fun w161 hS => ?_
 have hG162 := Mm.ext.refl w.heap.size noX M156
 have hR163 : Rd M156 [.box b7 cx3 38] w161 := Rd.of hS hG162 (by simp)
 refine WB_y (i := 0) rfl (by kernel_rfl) rfl (Y_move (.pointer (some ⟨b5, 0 + 0 + Int.toNat x3.id * 6, none⟩)) hT157_11) (fun _ => hR163) <|WB_y (i := 1) rfl (by kernel_rfl) rfl (Y_move (.pointer (some ⟨b5, 0 + 0 + Int.toNat x3.id * 6, none⟩)) hT157_11) (fun _ => hR163) <|WB_y (i := 2) rfl (by kernel_rfl) rfl (Y_move (.pointer (some ⟨b5, 0 + 0 + Int.toNat x3.id * 6, none⟩)) hT157_11) (fun _ => hR163) <|WB_y (i := 3) rfl (by kernel_rfl) rfl (Y_fa fa38_3 hT157_5) (fun _ => hR163) ?_
 obtain ⟨v164, ev164, hv164⟩ := (GFrame.p3 (rr hcx3))
 refine WB_ld (i := 4) rfl (by kernel_rfl) rfl (inL_lt rfl) (by kernel_rfl) (by kernel_rfl) (Y_ld1 v164 ts22 rfl (bvR 0 rfl) ev164) hR163 <|WB_y (i := 5) rfl (by kernel_rfl) rfl (Y_fa fa38_4 hT157_5) (fun _ => hR163) ?_
 obtain ⟨v165, ev165, hv165⟩ := (GFrame.p4 (rr hcx3))
 refine WB_ld (i := 6) rfl (by kernel_rfl) rfl (inL_lt rfl) (by kernel_rfl) (by kernel_rfl) (Y_ld1 v165 ts27 rfl (bvR 0 rfl) ev165) hR163 <|WB_y (i := 7) rfl (by kernel_rfl) rfl (Y_nil rfl) (fun _ => hR163) <|WB_y (i := 8) rfl (by kernel_rfl) rfl (Y_fa fa44_0 rfl) (fun _ => hR163) ?_
 obtain ⟨x168, hx169, hz⟩ := bind_ok hz
 obtain ⟨a170, hx171, hz⟩ := bind_ok hz
 obtain ⟨d172, hd167, hz⟩ := bind_ok hz
 refine WB_one (i := 9) (by kernel_rfl) rfl (O_sx 2 1 hS rfl hb158 rfl rfl (ri 2 : rep M156 _ _) rfl rfl (GNode.u0 (rr hb158) (vu (k := 6) rfl rfl (GNode.p0 (rr hb158)) (GEntry.u0 (vp (k := 6) rfl rfl (GNode.p0 (rr hb158)) hx169) (Lf (GEntry.p0 (vp (k := 6) rfl rfl (GNode.p0 (rr hb158)) hx169)) (ri 2 : rep M156 _ _))) hx171)) hd167 ?_)
 intro cs167 w166 hb167 ha167 hs167 hS
 have hR173 : Rd M156 [.box b7 cx3 38] w166 := Rd.of hS hG162 (by simp)
 refine ⟨fun _ => hR173, ?_⟩
 refine WB_y (i := 10) rfl (by kernel_rfl) rfl (Y_nil rfl) (fun _ => hR173) <|WB_y (i := 11) rfl (by kernel_rfl) rfl (Y_fa fa44_1 rfl) (fun _ => hR173) ?_
 obtain ⟨x176, hx177, hz⟩ := bind_ok hz
 obtain ⟨a178, hx179, hz⟩ := bind_ok hz
 obtain ⟨d180, hd175, hz⟩ := bind_ok hz
 refine WB_one (i := 12) (by kernel_rfl) rfl (O_sx 2 1 hS rfl hb167 rfl rfl (repL_rep hv164) (repL_cells hv164) rfl (GNode.u0 (rr hb167) (vu (k := 6) rfl rfl (GNode.p0 (rr hb167)) (GEntry.u1 (vp (k := 6) rfl rfl (GNode.p0 (rr hb167)) hx177) (Lf (GEntry.p1 (vp (k := 6) rfl rfl (GNode.p0 (rr hb167)) hx177)) (repL_rep hv164))) hx179)) hd175 ?_)
 intro cs175 w174 hb175 ha175 hs175 hS
 have hR181 : Rd M156 [.box b7 cx3 38] w174 := Rd.of hS hG162 (by simp)
 refine ⟨fun _ => hR181, ?_⟩
 refine WB_y (i := 13) rfl (by kernel_rfl) rfl (Y_nil rfl) (fun _ => hR181) <|WB_y (i := 14) rfl (by kernel_rfl) rfl (Y_fa fa44_3 rfl) (fun _ => hR181) ?_
 obtain ⟨x184, hx185, hz⟩ := bind_ok hz
 obtain ⟨a186, hx187, hz⟩ := bind_ok hz
 obtain ⟨d188, hd183, hz⟩ := bind_ok hz
 refine WB_one (i := 15) (by kernel_rfl) rfl (O_sx 2 1 hS rfl hb175 rfl rfl (repL_rep hv165) (repL_cells hv165) rfl (GNode.u0 (rr hb175) (vu (k := 6) rfl rfl (GNode.p0 (rr hb175)) (GEntry.u3 (vp (k := 6) rfl rfl (GNode.p0 (rr hb175)) hx185) (Lf (GEntry.p3 (vp (k := 6) rfl rfl (GNode.p0 (rr hb175)) hx185)) (repL_rep hv165))) hx187)) hd183 ?_)
 intro cs183 w182 hb183 ha183 hs183 hS
 have hR189 : Rd M156 [.box b7 cx3 38] w182 := Rd.of hS hG162 (by simp)
 refine ⟨fun _ => hR189, ?_⟩
 refine WB_done (by kernel_rfl) (nm_then ?_)
 refine W_reg ?_
 have ha190 := (rr hb183)
 refine WL_y (Y_ldn ta48 hT157_3 (hS.bvB 2 rfl) (Rep.len ha190)) <|WL_y (Y_move (.int .i64 r27) hT157_10) ?_
 obtain ⟨r193, hr192, hz⟩ := bind_ok hz
 refine WL_c (O_mem (vs := [.agg (sl cs183 (0) 201).toArray, .int .i64 r27]) (rv := (fun M' u => ∃ cs, u = .agg cs.toArray ∧ rep M' cs r193)) cb53 (args2 rfl rfl) hS (nodeExec_ok hS.agree ha190 hr192) ?_)
 intro u192 M192 w191 hx192 hu192 hS
 obtain ⟨c192, hq192, f192⟩ := hu192
 subst hq192
 replace hcx3 := Rep.mono hx192.1 hcx3
 replace hb13 := Rep.mono hx192.1 hb13
 replace hb183 := Rep.mono hx192.1 hb183
 replace ha190 := Rep.mono hx192.1 ha190
 replace hE := Mm.ext.trans hE hx192
 replace hF151 := Mm.ext.trans hF151 hx192
 obtain ⟨d196, hd195, hz⟩ := bind_ok hz
 refine WL_c (O_sx 2 201 hS rfl hb183 hT157_3 rfl f192 rfl rfl (Lf (rr hb183) f192) hd195 ?_)
 intro cs195 w194 hb195 ha195 hs195 hS
 refine WL_nil (nm_then ?_)
 exact ⟨M192, cs195, d196, hF151, hS, hb195, hT157_1, hT157_3, hT157_5, hT157_6, hT157_10, hz⟩
 replace hz := bif_ok_f hz hc154
 refine W_skip (nm_then ?_)
 exact ⟨M11, cx1, x1, hF151, hS, hcx1, hT12_1, hT12_3, hT12_5, hT12_6, rfl, hz⟩
 rintro T100 w98 ⟨M99, cs101, d102, hx103, hS, hb101, hT100_1, hT100_3, hT100_5, hT100_6, hT100_10, hz⟩
 replace hcx3 := Rep.mono hx103.1 hcx3
 replace hb13 := Rep.mono hx103.1 hb13
 replace hE := Mm.ext.trans hE hx103
 rw [nodeTake_j4] at hz
 refine W_seq <|W_reg <|WL_y (Y_move (.int .i64 x2) hT100_1) <|WL_y (Y_fa fa38_2 hT100_5) <|WL_y (Y_ld1 (.int .i64 x3.id) ts3 rfl (hS.bvB 1 rfl) (GFrame.p2 (rr hcx3))) ?_
 have k104_0 := GFrame.w0 (Zr.zr : rep M99 (Zr.zc GFrame) (Zr.zd : GFrame)) (ri 4 : rep M99 _ _)
 have k104_1 := GFrame.w1 k104_0 (ri x2 : rep M99 _ _)
 have k104_2 := GFrame.w2 k104_1 (ri x3.id : rep M99 _ _)
 obtain ⟨d105, hd104, hz⟩ := bind_ok hz
 obtain ⟨cs104, hf104, ha104⟩ : ∃ cs, fillZ (([(0, 1), (1, 1), (2, 1), (3, 1), (4, 1), (5, 1), (6, 1)] : List (Nat × Nat))[·]?) (Zr.zc GFrame) [(0, .int .i64 4), (1, .int .i64 x2), (2, .int .i64 x3.id)] = some cs ∧ rep M99 cs d105 := ⟨_, (fz_cons (Zr.zr : rep M99 (Zr.zc GFrame) (Zr.zd : GFrame)) rfl rfl (Rep.len (ri 4 : rep M99 _ _)) (by decide) (fz_cons k104_0 rfl rfl (Rep.len (ri x2 : rep M99 _ _)) (by decide) (fz_cons k104_1 rfl rfl (Rep.len (ri x3.id : rep M99 _ _)) (by decide) fz_nil))), rep_eq (x := ({ kind := 4, node := x2, id := x3.id, ops := Zr.zd, deps := Zr.zd, at_ := Zr.zd, vals := Zr.zd } : GFrame)) k104_2 hd104⟩
 refine WL_y (Y_build [(0, .int .i64 4), (1, .int .i64 x2), (2, .int .i64 x3.id)] tb38 (bpc rfl (bpc rfl (bpc rfl bp0))) hf104) ?_
 refine WL_c (O_bsliceR (α := GFrame) (l := ([d105] : List GFrame)) [.agg cs104.toArray] tp25 (bpc rfl bp0) rfl rfl (by decide) (by decide) (by decide) hS (brc ha104 br0) ?_)
 intro v107 M107 w106 hx107 hv107 hS
 replace hcx3 := Rep.mono hx107.1 hcx3
 replace hb13 := Rep.mono hx107.1 hb13
 replace hb101 := Rep.mono hx107.1 hb101
 replace ha104 := Rep.mono hx107.1 ha104
 replace hE := Mm.ext.trans hE hx107
 refine WL_y (Y_assign (v107) rfl) ?_
 refine WL_nil (nm_then ?_)
 refine W_seqJ (fun T' w' => ∃ M110 v113 l112, Mm.ext w.heap.size noX M107 M110 ∧ St w noX M110 [.row v113 38 7, .box b9 cs13 48, .box b7 cx3 38, .box b5 cs101 48] w' ∧ repL M110 v113 l112 ∧ T' 3 = .pointer (some ⟨b5, 0, none⟩) ∧ T' 6 = .pointer (some ⟨b9, 0, none⟩) ∧ T' 12 = v113 ∧ nodeTake_j5 d102 l112 = some r) ?_ ?_
 have hF119 := Mm.ext.refl w.heap.size noX M107
 refine W_seq <|W_reg <|WL_y (Y_fa fa38_2 hT100_5) <|WL_y (Y_ld1 (.int .i64 x3.id) ts3 rfl (hS.bvB 2 rfl) (GFrame.p2 (rr hcx3))) <|WL_y (Y_fa fa48_0 hT100_3) ?_
 obtain ⟨u120, hx121, hz⟩ := bind_ok hz
 obtain ⟨hx121a, hx121b⟩ := inR_some hx121
 refine WL_y (Y_ixA ia45 rfl rfl hx121a hx121b) ?_
 obtain ⟨x122, hx123, hz⟩ := bind_ok hz
 have ha124 := (vp (k := 6) rfl rfl (GNode.p0 (rr hb101)) hx123)
 refine WL_y (Y_ldn ta44 rfl (hS.bvB 3 rfl) (Rep.len ha124)) ?_
 refine WL_c (O_alloc tz44 hS ?_)
 intro b126 w125 hb126 hS
 have zb126 : rep M107 (Zr.zc GEntry) (Zr.zd : GEntry) := Zr.zr
 obtain ⟨d129, hd128, hz⟩ := bind_ok hz
 refine WL_c (O_sx 0 6 hS rfl zb126 rfl rfl ha124 rfl rfl (Lf (rr zb126) ha124) hd128 ?_)
 intro cs128 w127 hb128 ha128 hs128 hS
 refine WL_nil (nm_then ?_)
 refine W_seqJ (fun T' w' => ∃ M131 c133, Mm.ext w.heap.size noX M107 M131 ∧ St w noX M131 [.box b126 cs128 44, .row v107 38 7, .box b9 cs13 48, .box b7 cx3 38, .box b5 cs101 48] w' ∧ T' 1 = .int .i64 x2 ∧ T' 3 = .pointer (some ⟨b5, 0, none⟩) ∧ T' 5 = .pointer (some ⟨b7, 0, none⟩) ∧ T' 6 = .pointer (some ⟨b9, 0, none⟩) ∧ T' 12 = v107 ∧ T' 13 = .pointer (some ⟨b126, 0, none⟩) ∧ T' 134 = .bool c133 ∧ nodeTake_j6 x2 x3 d102 d105 d129 c133 = some r) ?_ ?_
 have hF145 := Mm.ext.refl w.heap.size noX M107
 refine W_reg <|WL_y (Y_fa fa44_0 rfl) <|WL_y (Y_ld1 (.int .i64 d129.state) ts3 rfl (hS.bvB 0 rfl) (GEntry.p0 (rr hb128))) <|WL_y (Y_eql rfl rfl) <|WL_y (Y_move (.bool (d129.state == 3)) rfl) ?_
 rcases ic hz with ⟨hc146, hz⟩ | ⟨hc146, hz⟩ <;> rw [hc146]
 refine WL_gy rfl rfl (Y_fa fa44_1 rfl) ?_
 obtain ⟨v147, ev147, hv147⟩ := (GEntry.p1 (rr hb128))
 refine WL_gy rfl rfl (Y_ld1 v147 ts22 rfl (hS.bvB 0 rfl) ev147) <|WL_gy rfl rfl (Y_move (.int .i64 r27) hT100_10) ?_
 obtain ⟨r150, hr149, hz⟩ := bind_ok hz
 replace hr149 := Option.some.inj hr149
 refine WL_g rfl rfl (O_val (vs := [v147, .int .i64 r27]) (v := .bool r150) cb44 (args2 rfl rfl) hS (hr149 ▸ (c_touches hS.agree hv147)) ?_)
 intro w148 hS
 refine WL_y (Y_pick_t (.bool r150) rfl rfl) ?_
 refine WL_nil (nm_then ?_)
 exact ⟨M107, r150, hF145, hS, hT100_1, hT100_3, hT100_5, hT100_6, rfl, rfl, rfl, hz⟩
 refine WL_d 5 rfl ?_
 refine WL_nil (nm_then ?_)
 exact ⟨M107, false, hF145, hS, hT100_1, hT100_3, hT100_5, hT100_6, rfl, rfl, rfl, hz⟩
 rintro T132 w130 ⟨M131, c133, hx134, hS, hT132_1, hT132_3, hT132_5, hT132_6, hT132_12, hT132_13, hT132_134, hz⟩
 replace hcx3 := Rep.mono hx134.1 hcx3
 replace hb13 := Rep.mono hx134.1 hb13
 replace hb101 := Rep.mono hx134.1 hb101
 replace hv107 := repL.mono hx134.1 hv107
 replace hb128 := Rep.mono hx134.1 hb128
 replace hE := Mm.ext.trans hE hx134
 replace hF119 := Mm.ext.trans hF119 hx134
 rw [nodeTake_j6] at hz
 refine W_cond hT132_134 (fun hc135 => ?_) (fun hc135 => ?_)
 replace hz := bif_ok_t hz hc135
 refine W_reg <|WL_y (Y_move (v107) hT132_12) <|WL_y (Y_move (.int .i64 x2) hT132_1) <|WL_y (Y_fa fa38_2 hT132_5) <|WL_y (Y_ld1 (.int .i64 x3.id) ts3 rfl (hS.bvB 3 rfl) (GFrame.p2 (rr hcx3))) <|WL_y (Y_fa fa44_4 hT132_13) ?_
 obtain ⟨v136, ev136, hv136⟩ := (GEntry.p4 (rr hb128))
 refine WL_y (Y_ld1 v136 ts27 rfl (hS.bvB 0 rfl) ev136) <|WL_y (Y_fa fa44_5 hT132_13) ?_
 obtain ⟨v137, ev137, hv137⟩ := (GEntry.p5 (rr hb128))
 refine WL_y (Y_ld1 v137 ts27 rfl (hS.bvB 0 rfl) ev137) ?_
 have k138_0 := GFrame.w0 (Zr.zr : rep M131 (Zr.zc GFrame) (Zr.zd : GFrame)) (ri 5 : rep M131 _ _)
 have k138_1 := GFrame.w1 k138_0 (ri x2 : rep M131 _ _)
 have k138_2 := GFrame.w2 k138_1 (ri x3.id : rep M131 _ _)
 have k138_3 := GFrame.w5 k138_2 (repL_rep hv136)
 have k138_4 := GFrame.w6 k138_3 (repL_rep hv137)
 obtain ⟨d139, hd138, hz⟩ := bind_ok hz
 obtain ⟨cs138, hf138, ha138⟩ : ∃ cs, fillZ (([(0, 1), (1, 1), (2, 1), (3, 1), (4, 1), (5, 1), (6, 1)] : List (Nat × Nat))[·]?) (Zr.zc GFrame) [(0, .int .i64 5), (1, .int .i64 x2), (2, .int .i64 x3.id), (5, v136), (6, v137)] = some cs ∧ rep M131 cs d139 := ⟨_, (fz_cons (Zr.zr : rep M131 (Zr.zc GFrame) (Zr.zd : GFrame)) rfl rfl (Rep.len (ri 5 : rep M131 _ _)) (by decide) (fz_cons k138_0 rfl rfl (Rep.len (ri x2 : rep M131 _ _)) (by decide) (fz_cons k138_1 rfl rfl (Rep.len (ri x3.id : rep M131 _ _)) (by decide) (fz_cons k138_2 rfl (repL_cells hv136) (Rep.len (repL_rep hv136)) (by decide) (fz_cons k138_3 rfl (repL_cells hv137) (Rep.len (repL_rep hv137)) (by decide) fz_nil))))), rep_eq (x := ({ kind := 5, node := x2, id := x3.id, ops := Zr.zd, deps := Zr.zd, at_ := d129.at_, vals := d129.values } : GFrame)) k138_4 hd138⟩
 refine WL_y (Y_build [(0, .int .i64 5), (1, .int .i64 x2), (2, .int .i64 x3.id), (5, v136), (6, v137)] tb38 (bpc rfl (bpc rfl (bpc rfl (bpc rfl (bpc rfl bp0))))) hf138) ?_
 refine WL_c (O_bslice (α := GFrame) (l := ([d139] : List GFrame)) [.agg cs138.toArray] tl25 (bpc rfl bp0) rfl rfl (by decide) (by decide) (by decide) hS (brc ha138 br0) ?_)
 intro v141 M141 w140 hx141 hv141 hS
 replace hcx3 := Rep.mono hx141.1 hcx3
 replace hb13 := Rep.mono hx141.1 hb13
 replace hb101 := Rep.mono hx141.1 hb101
 replace hv107 := repL.mono hx141.1 hv107
 replace hb128 := Rep.mono hx141.1 hb128
 replace hv136 := repL.mono hx141.1 hv136
 replace hv137 := repL.mono hx141.1 hv137
 replace ha138 := Rep.mono hx141.1 ha138
 replace hE := Mm.ext.trans hE hx141
 replace hF119 := Mm.ext.trans hF119 hx141
 obtain ⟨l144, hr143, hz⟩ := bind_ok hz
 obtain ⟨hy143, hs143⟩ := app_some hr143
 refine WL_c (O_app (α := GFrame) (j := 1) tp25 hS rfl rfl rfl hv107 hv141 hy143 ?_)
 intro v143 M143 w142 hx143 hv143 hS
 rw [← hs143] at hv143
 clear hr143 hs143
 replace hcx3 := Rep.mono hx143.1 hcx3
 replace hb13 := Rep.mono hx143.1 hb13
 replace hb101 := Rep.mono hx143.1 hb101
 replace hv107 := repL.mono hx143.1 hv107
 replace hb128 := Rep.mono hx143.1 hb128
 replace hv136 := repL.mono hx143.1 hv136
 replace hv137 := repL.mono hx143.1 hv137
 replace ha138 := Rep.mono hx143.1 ha138
 replace hv141 := repL.mono hx143.1 hv141
 replace hE := Mm.ext.trans hE hx143
 replace hF119 := Mm.ext.trans hF119 hx143
 refine WL_y (Y_assign (v143) rfl) ?_
 refine WL_nil (nm_then ?_)
 exact ⟨M143, v143, l144, hF119, (St.dropB hS hb126), hv143, hT132_3, hT132_6, rfl, hz⟩
 replace hz := bif_ok_f hz hc135
 refine W_skip (nm_then ?_)
 exact ⟨M131, v107, ([d105] : List GFrame), hF119, (St.dropB hS hb126), hv107, hT132_3, hT132_6, hT132_12, hz⟩
 rintro T111 w109 ⟨M110, v113, l112, hx114, hS, hv113, hT111_3, hT111_6, hT111_12, hz⟩
 replace hcx3 := Rep.mono hx114.1 hcx3
 replace hb13 := Rep.mono hx114.1 hb13
 replace hb101 := Rep.mono hx114.1 hb101
 replace hE := Mm.ext.trans hE hx114
 rw [nodeTake_j5] at hz
 refine W_seq <|W_reg ?_
 have ha115 := (rr hb101)
 refine WL_y (Y_ldn ta48 hT111_3 (hS.bvB 3 rfl) (Rep.len ha115)) <|WL_y (Y_move (v113) hT111_12) ?_
 obtain ⟨d118, hd117, hz⟩ := bind_ok hz
 refine WL_c (O_sx 1 201 hS rfl hb13 hT111_6 rfl ha115 rfl rfl (Lf (rr hb13) ha115) hd117 ?_)
 intro cs117 w116 hb117 ha117 hs117 hS
 refine WL_d 2 rfl ?_
 refine WL_nil (nm_then ?_)
 cases hz
 exact W_ret (rt_blk (rt_then (R_ctt (j := 1) rfl hT111_6 rfl rfl (by rw [Rep.len hb117]; exact ta48) hS rfl (Gives.mk (St.dropB (St.dropB (St.dropB (St.drop hS) hb9) hb7) hb5) hE ⟨_, _, rfl, hb117, hv113⟩))))
 replace hz := bif_ok_f hz hc97
 refine W_skip (nm_blk ?_)
 refine (nm_then ?_)
 refine W_seq <|W_reg ?_
 have ha213 := (rr hcx1)
 refine WL_y (Y_ldn ta48 hT12_3 (hS.bvB 2 rfl) (Rep.len ha213)) ?_
 obtain ⟨d216, hd215, hz⟩ := bind_ok hz
 refine WL_c (O_sx 0 201 hS rfl hb13 hT12_6 rfl ha213 rfl rfl (Lf (rr hb13) ha213) hd215 ?_)
 intro cs215 w214 hb215 ha215 hs215 hS
 refine WL_d 2 rfl ?_
 refine WL_nil (nm_then ?_)
 cases hz
 exact W_ret (R_ctt (j := 0) rfl hT12_6 rfl rfl (by rw [Rep.len hb215]; exact ta48) hS rfl (Gives.mk (St.dropB (St.dropB (St.dropB hS hb9) hb7) hb5) hE ⟨_, _, rfl, hb215, (repL_nil _)⟩))
end Go.Proofs.Ytopgdemmdcipcaa
